/- ints.Parse: any bytes read as a set of whole numbers. -/
import Derived.Test.YtncdckakcmoejaaInts12
namespace Go.Proofs.Ytncdckakcmoejaa
set_option linter.unusedVariables false
set_option linter.unusedSimpArgs false
open Go.RowKit
theorem leN_congr (k n m : Nat) (h : n % 256 ^ k = m % 256 ^ k) : leN k n = leN k m := by
  have h1 := leN_lowN (leN k n)
  have h2 := leN_lowN (leN k m)
  rw [lowN_leN, leN_length] at h1 h2
  rw [← h1, ← h2, h]
theorem enc_dec (W : Nat) (hW : W = 2 ∨ W = 4 ∨ W = 8) (l : List UInt8) (hl : l.length = W) : encW W (decW W (lowN l)) = l := by
  have h1 := lowN_lt l
  have h2 := leN_lowN l
  rw [hl] at h1 h2
  generalize lowN l = u at *
  rw [← h2, encW]
  apply leN_congr
  rcases hW with rfl | rfl | rfl
  · simp [decW, IntKind.wrap, IntKind.bits, IntKind.signed]; omega
  · simp [decW, IntKind.wrap, IntKind.bits, IntKind.signed]; omega
  · simp [decW, IntKind.wrap, IntKind.bits, IntKind.signed]; omega
theorem fits_dec (W u : Nat) (hW : W = 2 ∨ W = 4 ∨ W = 8) : fitsW W (decW W u) := by
  rcases hW with rfl | rfl | rfl
  · simp [fitsW, decW, IntKind.wrap, IntKind.bits, IntKind.signed]; omega
  · simp [fitsW, decW, IntKind.wrap, IntKind.bits, IntKind.signed]; omega
  · simp [fitsW, decW, IntKind.wrap, IntKind.bits, IntKind.signed]; omega
/-- The numbers in the bytes behind the head. -/
def decR (cs : List UInt8) (W n : Nat) : List Int := (List.range n).map fun i => decW W (lowN ((cs.drop (i * W)).take W))
theorem decR_length (cs : List UInt8) (W n : Nat) : (decR cs W n).length = n := by simp [decR]
theorem flat_decR (W : Nat) (hW : W = 2 ∨ W = 4 ∨ W = 8) : ∀ (n : Nat) (cs : List UInt8), cs.length = n * W → (decR cs W n).flatMap (encW W) = cs
  | 0, cs, h => by
    have : cs = [] := List.eq_nil_of_length_eq_zero (by simpa using h)
    simp [decR, this]
  | n + 1, cs, h => by
    rw [Nat.succ_mul] at h
    have ih := flat_decR W hW n (cs.drop W) (by simp; omega)
    rw [decR, List.range_succ_eq_map, List.map_cons, List.flatMap_cons, Nat.zero_mul, List.drop_zero, enc_dec W hW _ (by simp; omega)]
    rw [List.map_map]
    have : List.map ((fun i => decW W (lowN (List.take W (List.drop (i * W) cs)))) ∘ Nat.succ) (List.range n) = decR (cs.drop W) W n := by
      rw [decR]
      apply List.map_congr_left
      intro i _
      simp only [Function.comp, List.drop_drop, Nat.succ_mul]
      rw [Nat.add_comm]
    rw [this, ih, List.take_append_drop]
theorem fits_decR (cs : List UInt8) (W n : Nat) (hW : W = 2 ∨ W = 4 ∨ W = 8) : ∀ x ∈ decR cs W n, fitsW W x := by
  intro x hx
  simp only [decR, List.mem_map] at hx
  obtain ⟨i, _, rfl⟩ := hx
  exact fits_dec _ _ hW
def parseL (bs : List UInt8) : Option (List Int × Nat) :=
  if bs.length < 8 ∨ ¬ (lowN (bs.take 4) = 2 ∨ lowN (bs.take 4) = 4 ∨ lowN (bs.take 4) = 8) ∨ bs.length ≠ 8 + lowN ((bs.drop 4).take 4) * lowN (bs.take 4) ∨
      ¬ (decR (bs.drop 8) (lowN (bs.take 4)) (lowN ((bs.drop 4).take 4))).Pairwise (· < ·) then none
  else some (decR (bs.drop 8) (lowN (bs.take 4)) (lowN ((bs.drop 4).take 4)), lowN (bs.take 4))
theorem head_split (bs : List UInt8) : bs = bs.take 4 ++ ((bs.drop 4).take 4 ++ bs.drop 8) := by
  have h1 := List.take_append_drop 4 bs
  have h2 := List.take_append_drop 4 (bs.drop 4)
  rw [List.drop_drop] at h2
  rw [h2, h1]
theorem bytes_decR {bs : List UInt8} {W n : Nat} (hW : W = 2 ∨ W = 4 ∨ W = 8) (h8 : 8 ≤ bs.length) (h1 : lowN (bs.take 4) = W) (h2 : lowN ((bs.drop 4).take 4) = n) (h3 : bs.length = 8 + n * W) :
    intsBytes (decR (bs.drop 8) W n) W = bs := by
  rw [intsBytes, decR_length, flat_decR W hW n (bs.drop 8) (by simp; omega)]
  have e1 := leN_lowN (bs.take 4)
  have e2 := leN_lowN ((bs.drop 4).take 4)
  rw [h1, show (bs.take 4).length = 4 by simp; omega] at e1
  rw [h2, show ((bs.drop 4).take 4).length = 4 by simp; omega] at e2
  rw [e1, e2, List.append_assoc]
  exact (head_split bs).symm
theorem parse_bytes {L : List Int} {W : Nat} (hW : W = 2 ∨ W = 4 ∨ W = 8) (hf : ∀ x ∈ L, fitsW W x) (hs : L.Pairwise (· < ·)) (hn : L.length ≤ 100000000) : parseL (intsBytes L W) = some (L, W) := by
  have h1 : lowN ((intsBytes L W).take 4) = W := by rw [intsBytes_head, lowN_leN]; omega
  have h2 : lowN (((intsBytes L W).drop 4).take 4) = L.length := by rw [intsBytes_count, lowN_leN]; omega
  have h3 := intsBytes_length L W
  have h4 : decR ((intsBytes L W).drop 8) W L.length = L := by
    apply List.ext_getElem (by simp [decR])
    intro i hi hj
    simp only [decR, List.getElem_map, List.getElem_range, List.drop_drop]
    rw [intsBytes_at L W i hj]
    exact dec_enc W _ (hf _ (List.getElem_mem hj))
  rw [parseL, h1, h2, h3, h4, if_neg]
  rintro (h | h | h | h)
  · omega
  · exact h hW
  · exact h rfl
  · exact h hs
theorem adj_pairwise {L : List Int} (h : ∀ j, 1 ≤ j → j < L.length → L.getD (j - 1) 0 < L.getD j 0) : L.Pairwise (· < ·) := by
  rw [List.pairwise_iff_getElem]
  intro i j hi hj hij
  obtain ⟨d, rfl⟩ : ∃ d, j = i + 1 + d := ⟨j - i - 1, by omega⟩
  induction d with
  | zero => have := h (i + 1) (by omega) hj; simpa [List.getD, hi, hj] using this
  | succ d ih =>
    have h1 := ih (by omega) (by omega)
    have h2 := h (i + 1 + d + 1) (by omega) (by omega)
    simp only [Nat.add_sub_cancel, List.getD, List.getElem?_eq_getElem (show i + 1 + d < L.length by omega), List.getElem?_eq_getElem (show i + 1 + d + 1 < L.length by omega), Option.getD_some] at h2
    exact Int.lt_trans h1 h2
set_option maxHeartbeats 400000 in
set_option maxRecDepth 100000 in
theorem len_raw {w : World} {p g n cap : Nat} {v1 v2 : Value} (xs : List UInt8) (hxs : xs.length = 4) (hp : w.heap[p]? = some (.cells #[.slice (some ⟨g, 0, none⟩) n cap, v1, v2] 47 (0, 0)))
    (h8 : 8 ≤ n) (hcap : n ≤ cap) (hm : cap ≤ maxLen) (hc : ∀ i (h : i < xs.length), w.cell? ⟨g, 4 + i, none⟩ = some (.int .u8 xs[i].toNat)) :
    Calls Try.prog 19 #[.pointer (some ⟨p, 0, none⟩)] w fun e w' => e = .returned (.int .i64 (lowN xs)) ∧ w = w' := by
  have c0 := cell_in hp (i := 0) rfl
  have hlow := low_any g 4 4 (cap - 4) xs w hxs (by omega) hc
  unfold maxLen at hm
  have hlt := lowN_lt xs
  rw [hxs] at hlt
  have HL := Lib.hid hlow
  clear hlow hm hc hp
  generalize lowN xs = u at *
  go_enter Try.func19, Try.ntmps19
  go_wp2_with fail
  refine HL.out.mono ?_
  rintro e w' ⟨rfl, rfl⟩
  go_wp2_with fail
  go_ret
  exact ⟨rfl, rfl⟩
end Go.Proofs.Ytncdckakcmoejaa
