/- The walk of ints.Parse. -/
import Derived.Test.YtncdckakcmoejaaInts13
namespace Go.Proofs.Ytncdckakcmoejaa
set_option linter.unusedVariables false
set_option linter.unusedSimpArgs false
open Go.RowKit
def Parsed (bs : List UInt8) (w : World) (e : Ending) (w' : World) : Prop :=
  Below w.heap.size w w' ∧ match parseL bs with
    | none => e = .returned (.tuple #[.pointer none, .int .i64 4])
    | some (L, W) => ∃ p F, e = .returned (.tuple #[.pointer (some ⟨p, 0, none⟩), .int .i64 0]) ∧ IntsF w' p F L W ∧ (∀ k, F k → w.heap.size ≤ k)
theorem cells_of_at {w : World} {b : Nat} {E : TypeId} {cur : Array Value} (h : RowAt w b E cur) {bs : List UInt8} {n o : Nat} (hn : bs.length = n) (ht : cur.toList.take n = bs.map u8v) {xs : List UInt8} (hx : (bs.drop o).take xs.length = xs) :
    ∀ i (h : i < xs.length), w.cell? ⟨b, o + i, none⟩ = some (.int .u8 xs[i].toNat) := cells_of_take h hn ht hx
set_option maxHeartbeats 1600000 in
set_option maxRecDepth 100000 in
theorem parse_any (s : ByteArray) (w : World) (hs : s.size ≤ 100000000) : Calls Try.prog 17 #[.string s] w (Parsed s.data.toList w) := by
  have hlen : s.data.toList.length = s.size := by simp
  obtain ⟨bs, hbs⟩ : ∃ bs, bs = s.data.toList := ⟨_, rfl⟩
  rw [← hbs] at hlen ⊢
  by_cases h8 : s.size < 8
  · have hp : parseL bs = none := by rw [parseL, if_pos (.inl (by omega))]
    have hd8 : decide ((s.size : Int) < 8) = true := by simp; omega
    go_enter Try.func17, Try.ntmps17
    go_wp2_with fail
    go_ret2
    rw [Parsed, hp]
    exact ⟨Below.refl _ _, rfl⟩
  · have hd8 : decide ((s.size : Int) < 8) = false := by simp; omega
    obtain ⟨cap, cur, w1, hcv, hrow, hsize, hle, hcm, htk, hch⟩ := run_bytes_string (P := Try.prog) w 9 44 5 Try.underlying9 Try.underlying44 Try.underlying5 s (by omega)
    rw [← hbs] at htk
    have hgs := hrow.lt
    obtain ⟨w2, hw2⟩ : ∃ w2, w2 = w1.alloc (.cells #[.slice (some ⟨w.heap.size, 0, none⟩) s.size cap, .nilFunc, .int .i64 0] 47) := ⟨_, rfl⟩
    have hp2 : w2.heap[w1.heap.size]? = some (.cells #[.slice (some ⟨w.heap.size, 0, none⟩) s.size cap, .nilFunc, .int .i64 0] 47 (0, 0)) := by rw [hw2]; exact heap_new _ _
    have hrow2 : RowAt w2 w.heap.size 5 cur := by rw [hw2]; exact hrow.old _
    have hch2 : Chg (fun _ => False) w w2 := by rw [hw2]; exact hch.trans (Chg.alloc _ _ _) fun _ h _ => h
    have HW2 := Lib.hid hw2
    have htl : (bs.take 4).length = 4 := by simp; omega
    have htl2 : ((bs.drop 4).take 4).length = 4 := by simp; omega
    have HLow := Lib.hid (low_any w.heap.size 0 4 cap (bs.take 4) w2 (by simp; omega) (by omega) (cells_of_take hrow2 hlen htk (o := 0) (by rw [htl]; rfl)))
    have HLen := Lib.hid (len_raw ((bs.drop 4).take 4) htl2 hp2 (by omega) hle hcm (cells_of_take hrow2 hlen htk (o := 4) (by rw [htl2])))
    have hlu : lowN (bs.take 4) < 4294967296 := by have := lowN_lt (bs.take 4); rw [htl] at this; exact this
    have hln : lowN ((bs.drop 4).take 4) < 4294967296 := by have := lowN_lt ((bs.drop 4).take 4); rw [htl2] at this; exact this
    obtain ⟨W, hW⟩ : ∃ W, W = lowN (bs.take 4) := ⟨_, rfl⟩
    obtain ⟨n, hn⟩ : ∃ n, n = lowN ((bs.drop 4).take 4) := ⟨_, rfl⟩
    rw [← hW] at hlu HLow
    rw [← hn] at hln HLen
    have HB := Lib.hid (And.intro hp2 (And.intro hrow2 (And.intro hch2 (And.intro htk (And.intro hlen (And.intro hW hn))))))
    have hB2 : Below w.heap.size w w2 := belowChg (Below.refl _ _) hch2 (Nat.le_refl _) fun k hk => hk.elim
    have hpg : w.heap.size ≠ w1.heap.size := by omega
    clear hp2 hrow2 hch2 htk hlen hW hn hbs hrow htl htl2 hw2 hch
    by_cases hw : W = 2 ∨ W = 4 ∨ W = 8
    · by_cases hsz : s.size = 8 + n * W
      · obtain ⟨hp2, hrow2, hch2, htk, hlen, hW, hn⟩ := HB.out
        have hlb := bytes_decR hw (by omega) hW.symm hn.symm (by rw [hlen, hsz])
        have hfd := fits_decR (bs.drop 8) W n hw
        have hpl : parseL bs = if (decR (bs.drop 8) W n).Pairwise (· < ·) then some (decR (bs.drop 8) W n, W) else none := by
          rw [parseL, ← hW, ← hn, hlen]
          by_cases hpw : (decR (bs.drop 8) W n).Pairwise (· < ·)
          · rw [if_neg (fun h => h.elim (fun h => by omega) fun h => h.elim (fun h => h hw) fun h => h.elim (fun h => h hsz) fun h => h hpw), if_pos hpw]
          · rw [if_neg hpw, if_pos (.inr (.inr (.inr hpw)))]
        have hLn := decR_length (bs.drop 8) W n
        generalize decR (bs.drop 8) W n = L at *
        subst hLn
        have hcur : wrs cur 0 ((leN 4 W).map u8v) = cur := by
          have e4 : leN 4 W = bs.take 4 := by rw [← hlb, intsBytes_head]
          apply Array.ext_getElem?
          intro i
          rw [wrs_get, e4]
          split
          · next h =>
            have h2 : i < 4 := by have := h.2.1; simp at this; omega
            have e := congrArg (fun l => l[i]?) htk
            simp only [List.getElem?_take_of_lt (show i < s.size by omega)] at e
            rw [Nat.sub_zero, ← Array.getElem?_toList, e, List.getElem?_map, List.getElem?_map, List.getElem?_take_of_lt h2]
          · rfl
        have HWd := Lib.hid (wide_any W hw hp2 hrow2 (by omega) (by omega) hcm hsize)
        rw [hcur] at HWd
        have HL8 := Lib.hid (show L.length ≤ 100000000 by
          have : L.length * 1 ≤ L.length * W := Nat.mul_le_mul_left _ (by omega)
          omega)
        have HF := Lib.hid (And.intro hpl (And.intro hlb (And.intro hfd (And.intro hle htk))))
        clear hpl hlb hfd hp2 hrow2 hch2 htk hcur hW hn
        have hmul : (W : Int) * (L.length : Int) = ((L.length * W : Nat) : Int) := by rw [Int.natCast_mul, Int.mul_comm]
        have hnw : L.length * W ≤ L.length * 8 := Nat.mul_le_mul_left _ (by omega)
        have hne : ((s.size : Int) - 8 != ((L.length * W : Nat) : Int)) = false := by
          simp only [bne_eq_false_iff_eq]; omega
        have HSz := Lib.hid hsz
        have HR := Lib.hid (fun w3 (h1 : w3.heap[w1.heap.size]? = some (.cells #[.slice (some ⟨w.heap.size, 0, none⟩) s.size cap, .func (.func (getF W)) #[] #[], .int .i64 W] 47 (0, 0))) (h2 : RowAt w3 w.heap.size 5 cur) =>
          show IntsRow w3 w1.heap.size w.heap.size cap cur L W from ⟨by rw [← hsz]; exact h1, h2, hpg, hsize, by rw [← hsz]; exact hle, hcm, by rw [← hsz, HF.out.2.1]; exact HF.out.2.2.2.2, hw, HF.out.2.2.1, HL8.out⟩)
        clear hsz
        generalize L.length * W = m at *
        rcases hw with rfl | rfl | rfl
        all_goals
          have hmul' := hmul
          simp only [Int.cast_ofNat_Int] at hmul'
          rw [← hmul'] at hne
          clear hmul hmul'
          go_enter Try.func17, Try.ntmps17
          go_wp2_with fail
          rw [← HW2.out]
          refine HLow.out.mono ?_
          rintro e w' ⟨rfl, rfl⟩
          go_wp2_with fail
          refine HLen.out.mono ?_
          rintro e w' ⟨rfl, rfl⟩
          go_wp2_with fail
          refine HWd.out.mono ?_
          rintro e w3 ⟨rfl, q1, q2, q3⟩
          have HRow := Lib.hid (HR.out w3 q1 q2)
          have B3 := Lib.hid (belowChg hB2 q3 hB2.size fun k hk _ => by rcases hk with rfl | rfl <;> omega)
          clear q1 q2 q3 HR HWd HLow HLen HW2 hcv hB2 HB
          generalize w1.heap.size = p at *
          go_wp2_with fail
          go_loopw [6] (fun i wr => ∃ k : Nat, (k = 1 ∨ k ≤ L.length) ∧ 1 ≤ k ∧ i = .int .i64 k ∧ (∃ m, wr = w3.drewN m) ∧ Hid (∀ j, 1 ≤ j → j < k → L.getD (j - 1) 0 < L.getD j 0)) (fun i _ => L.length - (intOf i).toNat)
          case atStart => exact ⟨1, .inl rfl, Nat.le_refl _, rfl, ⟨0, (World.drewN_zero _).symm⟩, Lib.hid fun j h1 h2 => by omega⟩
          case round =>
            obtain ⟨k, hk, hk1, rfl, ⟨m, rfl⟩, hI⟩ := hrel
            have HLn := Lib.hid fun n => len_row (HRow.out.chg (Chg.drewN (fun _ => False) w3 n) id id)
            by_cases hlt : k < L.length
            · have HA := Lib.hid fun n (i : Nat) (h : i < L.length) => at_row (HRow.out.chg (Chg.drewN (fun _ => False) w3 n) id id) h
              go_wp2_with fail
              refine (HLn.out m).mono ?_
              rintro e w' ⟨rfl, rfl⟩
              have HA1 := Lib.hid fun n => HA.out n (k - 1) (by omega)
              rw [show ((k - 1 : Nat) : Int) = (k : Int) - 1 by omega] at HA1
              have HA2 := Lib.hid fun n => HA.out n k hlt
              have Hup := Lib.hid (show (decide (L.getD k 0 ≤ L.getD (k - 1) 0) = true → ¬ L.Pairwise (· < ·)) ∧ (decide (L.getD k 0 ≤ L.getD (k - 1) 0) = false → L.getD (k - 1) 0 < L.getD k 0) from
                ⟨fun h hp => by
                  have := List.pairwise_iff_getElem.1 hp (k - 1) k (by omega) hlt (by omega)
                  have e1 : L.getD k 0 = L[k] := by simp [List.getD, hlt]
                  have e2 : L.getD (k - 1) 0 = L[k - 1] := by simp [List.getD, show k - 1 < L.length by omega]
                  have := of_decide_eq_true h
                  omega, fun h => by have := of_decide_eq_false h; omega⟩)
              have HNx := Lib.hid (show L.getD (k - 1) 0 < L.getD k 0 → ∀ j, 1 ≤ j → j < k + 1 → L.getD (j - 1) 0 < L.getD j 0 from fun h j h1 h2 => by
                by_cases hj : j = k
                · subst hj; exact h
                · exact hI.out j h1 (by omega))
              clear HA hI
              generalize L.getD (k - 1) 0 = x at *
              generalize L.getD k 0 = y at *
              rcases Bool.eq_false_or_eq_true (decide (y ≤ x)) with hc | hc
              all_goals
                go_wp2_with fail
                refine (HA1.out m).mono ?_
                rintro e w' ⟨rfl, n1, rfl⟩
                rw [World.drewN_drewN]
                go_wp2_with fail
                refine (HA2.out _).mono ?_
                rintro e w' ⟨rfl, n2, rfl⟩
                rw [World.drewN_drewN]
                go_wp2_with fail
                first
                  | (go_ret2
                     rw [Parsed, HF.out.1, if_neg (Hup.out.1 hc)]
                     exact ⟨belowN B3.out _, rfl⟩)
                  | (go_roundw
                     case rel => exact ⟨k + 1, .inr (by omega), by omega, by go_num, ⟨_, rfl⟩, Lib.hid (HNx.out (Hup.out.2 hc))⟩
                     case measure => simp [intOf]; omega)
            · go_wp2_with fail
              refine (HLn.out m).mono ?_
              rintro e w' ⟨rfl, rfl⟩
              go_wp2_with fail
              go_ret2
              rw [Parsed, HF.out.1, if_pos (adj_pairwise fun j h1 h2 => hI.out j h1 (by omega))]
              exact ⟨belowN B3.out m, p, _, rfl, ⟨_, _, _, HRow.out.chg (Chg.drewN (fun _ => False) w3 m) id id, adj_pairwise fun j h1 h2 => hI.out j h1 (by omega), fun k => Iff.rfl⟩, fun k hk => by rcases hk with rfl | rfl <;> omega⟩
      · have hp : parseL bs = none := by
          obtain ⟨_, _, _, _, hlen, hW, hn⟩ := HB.out
          rw [parseL, ← hW, ← hn, hlen, if_pos (.inr (.inr (.inl hsz)))]
        have hmul : (W : Int) * (n : Int) = ((n * W : Nat) : Int) := by rw [Int.natCast_mul, Int.mul_comm]
        have hnw : n * W ≤ n * 8 := Nat.mul_le_mul_left _ (by omega)
        have hne : ((s.size : Int) - 8 != ((n * W : Nat) : Int)) = true := by
          simp only [bne_iff_ne, ne_eq]; omega
        generalize n * W = m at *
        rcases hw with rfl | rfl | rfl
        all_goals
          go_enter Try.func17, Try.ntmps17
          go_wp2_with fail
          rw [← HW2.out]
          refine HLow.out.mono ?_
          rintro e w' ⟨rfl, rfl⟩
          have hmul' := hmul
          simp only [Int.cast_ofNat_Int] at hmul'
          rw [← hmul'] at hne
          clear hmul hmul'
          go_wp2_with fail
          refine HLen.out.mono ?_
          rintro e w' ⟨rfl, rfl⟩
          go_wp2_with fail
          go_ret2
          rw [Parsed, hp]
          exact ⟨hB2, rfl⟩
    · have hp : parseL bs = none := by
        obtain ⟨_, _, _, _, hlen, hW, hn⟩ := HB.out
        rw [parseL, ← hW, if_pos (.inr (.inl hw))]
      have h2 : ((W : Int) != 2) = true := by simp; omega
      have h4 : ((W : Int) != 4) = true := by simp; omega
      have h8 : ((W : Int) != 8) = true := by simp; omega
      go_enter Try.func17, Try.ntmps17
      go_wp2_with fail
      rw [← HW2.out]
      refine HLow.out.mono ?_
      rintro e w' ⟨rfl, rfl⟩
      go_wp2_with fail
      go_ret2
      rw [Parsed, hp]
      exact ⟨hB2, rfl⟩
end Go.Proofs.Ytncdckakcmoejaa
