/- The laws of the layer ints: alive, filled, IntsGoes. -/
import Derived.Test.YtncdckakcmoejaaInts7
import Derived.Test.YtncdckakcmoejaaArgs
import Derived.PlainAid
namespace Go.Proofs.Ytncdckakcmoejaa
set_option linter.unusedVariables false
set_option linter.unusedSimpArgs false
open Go.RowKit
set_option maxHeartbeats 400000 in
theorem parse_short (w : World) : Calls Try.prog 17 #[.string ⟨#[]⟩] w fun e w' => e = .returned (.tuple #[.pointer none, .int .i64 4]) ∧ w = w' := by
  go_enter Try.func17, Try.ntmps17
  go_wp2_with fail
  go_ret2
  exact ⟨rfl, rfl⟩
/-- All numbers in order of their coming. -/
def insAll (L : List Int) : List Int → List Int
  | [] => L
  | x :: l => insAll (ins L x) l
def widthAll (W : Nat) : List Int → Nat
  | [] => W
  | x :: l => widthAll (max W (wantsN x)) l
theorem insAll_snoc (x : Int) : ∀ (l L : List Int), insAll L (l ++ [x]) = ins (insAll L l) x
  | [], L => rfl
  | y :: l, L => insAll_snoc x l (ins L y)
theorem widthAll_snoc (x : Int) : ∀ (l : List Int) (W : Nat), widthAll W (l ++ [x]) = max (widthAll W l) (wantsN x)
  | [], W => rfl
  | y :: l, W => widthAll_snoc x l _
theorem insAll_sorted : ∀ (l L : List Int), L.Pairwise (· < ·) → (insAll L l).Pairwise (· < ·)
  | [], L, h => h
  | x :: l, L, h => insAll_sorted l _ (ins_sorted x h)
theorem insAll_length : ∀ (l L : List Int), L.Pairwise (· < ·) → (insAll L l).length ≤ L.length + l.length
  | [], L, h => by simp [insAll]
  | x :: l, L, h => by
    have := insAll_length l (ins L x) (ins_sorted x h)
    have h2 := ins_length x h
    simp only [insAll, List.length_cons]
    split at h2 <;> omega
theorem mem_insAll (y : Int) : ∀ (l L : List Int), y ∈ insAll L l ↔ y ∈ L ∨ y ∈ l
  | [], L => by simp [insAll]
  | x :: l, L => by
    simp only [insAll, mem_insAll y l, mem_ins, List.mem_cons]
    constructor
    · rintro ((h | h) | h) <;> simp [h]
    · rintro (h | h | h) <;> simp [h]

set_option maxHeartbeats 800000 in
theorem filled_any (w : World) (a : Option Addr) (len cap : Nat) (zs : List Int) (hlen : zs.length = len) (ha : ArgRow w a len cap fun i => .int .i64 (zs.getD i 0)) (hz : ∀ n ∈ zs, (Lit.int .i64 n).wf = true) (hm : len ≤ 400) :
    Calls Try.prog 16 #[.slice a len cap] w fun e w' => ∃ p F, e = .returned (.pointer (some ⟨p, 0, none⟩)) ∧ IntsF w' p F (insAll [] zs) (widthAll 2 zs) ∧ (∀ k, F k → w.heap.size ≤ k) ∧ Below w.heap.size w w' := by
  have HN := Lib.hid (newF w)
  have HA := Lib.hid ha
  have HZ := Lib.hid hz
  have HE := Lib.hid hlen
  clear ha hz hlen
  go_enter Try.func16, Try.ntmps16
  go_wp2_with fail
  refine HN.out.mono ?_
  rintro e w1 ⟨rfl, h1, h2⟩
  obtain ⟨p, hp⟩ : ∃ p, p = w.heap.size + 1 := ⟨_, rfl⟩
  have K0 : ∃ F, IntsF w1 p F (insAll [] (zs.take 0)) (widthAll 2 (zs.take 0)) ∧ (∀ k, F k → w.heap.size ≤ k) ∧ Below w.heap.size w w1 :=
    ⟨_, by rw [hp]; simpa [insAll, widthAll] using h1, fun k hk => by omega, belowChg (Below.refl _ _) h2 (Nat.le_refl _) fun k hk => hk.elim⟩
  rw [← hp]
  have HK := Lib.hid K0
  clear K0 h1 h2 hp HN
  go_wp2_with fail
  go_loopw [4] (fun i wr => ∃ k : Nat, k ≤ len ∧ i = .int .i64 k ∧ Hid (∃ F, IntsF wr p F (insAll [] (zs.take k)) (widthAll 2 (zs.take k)) ∧ (∀ k, F k → w.heap.size ≤ k) ∧ Below w.heap.size w wr)) (fun i _ => len - (intOf i).toNat)
  case atStart => exact ⟨0, Nat.zero_le _, rfl, HK⟩
  case round =>
    obtain ⟨k, hk, rfl, hI⟩ := hrel
    by_cases hlt : k < len
    · obtain ⟨F, h1, h2, h3⟩ := hI.out
      have hzl := HE.out
      obtain ⟨b, o, rfl, hc⟩ := HA.out.2.resolve_left (by omega)
      have hcell : wr.cell? ⟨b, o + k, none⟩ = some (.int .i64 (zs.getD k 0)) := by
        have := hc k hlt
        have hb := World.block_lt_of_cell? w _ this
        rw [h3.cell hb]; exact this
      have hx : -9223372036854775808 ≤ zs.getD k 0 ∧ zs.getD k 0 ≤ 9223372036854775807 := by
        have := bounds_i64 (HZ.out zs[k] (List.getElem_mem (by omega)))
        simpa [List.getD, show k < zs.length by omega] using this
      have hll := insAll_length (zs.take k) [] List.Pairwise.nil
      have HAd := Lib.hid (addF h1 (zs.getD k 0) hx (by simp at hll ⊢; omega))
      have hs1 : zs.take (k + 1) = zs.take k ++ [zs.getD k 0] := by
        rw [List.take_succ_eq_append_getElem (by omega)]; simp [List.getD, show k < zs.length by omega]
      have HS := Lib.hid hs1
      have H2 := Lib.hid h2
      have H3 := Lib.hid h3
      clear h1 h2 h3 hc hx hll hs1 hzl
      generalize zs.getD k 0 = x at *
      go_wp2_with fail
      refine HAd.out.mono ?_
      rintro e w2 ⟨rfl, F', q1, q2, q3⟩
      have hsz := H3.out.size
      have hnew : ∃ F, IntsF w2 p F (insAll [] (zs.take (k + 1))) (widthAll 2 (zs.take (k + 1))) ∧ (∀ k, F k → w.heap.size ≤ k) ∧ Below w.heap.size w w2 := by
        refine ⟨F', ?_, fun j hj => ?_, belowChg H3.out q3 hsz fun j hj _ => H2.out j hj⟩
        · rw [HS.out, insAll_snoc, widthAll_snoc]; exact q1
        · rcases q2 j hj with h | h
          · exact H2.out j h
          · omega
      have HNw := Lib.hid hnew
      clear q1 q2 q3 hnew
      go_wp2_with fail
      go_roundw
      case rel => exact ⟨k + 1, by omega, by go_num, HNw⟩
      case measure => simp [intOf]; omega
    · have : k = len := by omega
      subst this
      go_wp2_with fail
      go_ret
      obtain ⟨F, h1, h2, h3⟩ := hI.out
      rw [List.take_of_length_le (by rw [HE.out]; omega)] at h1
      exact ⟨p, F, rfl, h1, h2, h3⟩
end Go.Proofs.Ytncdckakcmoejaa
