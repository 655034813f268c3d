/- The law IntsParses: the walk. -/
import Derived.Test.YtncdckakcmoejaaRef10
namespace Go.Proofs.Ytncdckakcmoejaa
set_option linter.unusedVariables false
set_option linter.unusedSimpArgs false
open Go.RowKit
theorem parse_len {bs : List UInt8} {L : List Int} {W : Nat} (h : parseL bs = some (L, W)) : L.length ≤ bs.length := by
  rw [parseL] at h
  split at h
  · cases h
  · next hn =>
    simp only [Option.some.injEq, Prod.mk.injEq] at h
    obtain ⟨rfl, rfl⟩ := h
    rw [decR_length]
    have h1 : lowN (bs.take 4) = 2 ∨ lowN (bs.take 4) = 4 ∨ lowN (bs.take 4) = 8 := Decidable.not_not.1 fun h => hn (.inr (.inl h))
    have h2 : bs.length = 8 + lowN ((bs.drop 4).take 4) * lowN (bs.take 4) := Decidable.not_not.1 fun h => hn (.inr (.inr (.inl h)))
    rcases h1 with h1 | h1 | h1 <;> rw [h1] at h2 <;> omega
set_option maxHeartbeats 800000 in
set_option maxRecDepth 100000 in
theorem intsParses_walk (s : ByteArray) (kd n : Int) (w : World) (h0 : s.size ≤ 140737488351232) (hk : (Lit.int .u8 kd).wf = true) (h1 : (Lit.int .i64 n).wf = true) :
    Calls Try.prog 8 #[.string s, .agg #[.int .u8 kd, .int .i64 n]] w fun e w' => e = .returned (.bool true) ∧ Below w.heap.size w w' := by
  have hn := bounds_i64 h1
  have HNn := Lib.hid hn
  clear h1 hn hk
  obtain ⟨w1, hw1⟩ : ∃ w1, w1 = w.alloc (.cells #[.int .u8 kd, .int .i64 n] 50) := ⟨_, rfl⟩
  obtain ⟨w2, hw2⟩ : ∃ w2, w2 = w1.alloc (.cells #[.int .i64 s.size] 3) := ⟨_, rfl⟩
  have hb1 : Below w.heap.size w w1 := by rw [hw1]; exact (Below.refl _ _).alloc (Nat.le_refl _) _
  have hb2 : Below w.heap.size w w2 := by rw [hw2]; exact hb1.alloc hb1.size _
  have hq1 : w1.heap[w.heap.size]? = some (.cells #[.int .u8 kd, .int .i64 n] 50 (0, 0)) := by rw [hw1]; exact heap_new _ _
  have hq2 : w2.heap[w.heap.size]? = some (.cells #[.int .u8 kd, .int .i64 n] 50 (0, 0)) := by rw [hw2]; exact heap_old hq1 _
  have hc2 : w2.cell? ⟨w1.heap.size, 0, none⟩ = some (.int .i64 s.size) := by rw [hw2]; exact cell_in (heap_new _ _) (i := 0) rfl
  have HBe := Lib.hid (beyond_any w2 (some ⟨w1.heap.size, 0, none⟩) 1 1 [s.size] rfl ⟨Nat.le_refl _, .inr ⟨_, 0, rfl, fun i hi => by
    have : i = 0 := by omega
    subst this
    exact hc2⟩⟩ (by simp; omega) (by omega))
  rw [show [s.size].sum = s.size by simp, show w1.heap.size = w.heap.size + 1 by rw [hw1]; simp] at HBe
  have HW1 := Lib.hid hw1
  have HW2 := Lib.hid hw2
  have HQ := Lib.hid hq2
  have HB := Lib.hid hb2
  clear hw1 hw2 hb1 hb2 hq1 hq2 hc2
  by_cases hbig : 1048576 < s.size
  · have e1 : decide (1048576 < s.size) = true := by simpa using hbig
    rw [e1] at HBe
    go_enter Try.func8, Try.ntmps8
    go_wp2_with fail
    rw [← HW1.out, ← HW2.out]
    refine HBe.out.mono ?_
    rintro e w' ⟨rfl, rfl⟩
    go_wp2_with fail
    go_ret
    exact ⟨rfl, HB.out⟩
  · have e1 : decide (1048576 < s.size) = false := by simpa using hbig
    rw [e1] at HBe
    have HP := Lib.hid (parse_any s w2 (by omega))
    have HR := Lib.hid fun w => refParse s w (by omega)
    have hsl : s.data.toList.length = s.size := by simp
    rcases hpl : parseL s.data.toList with _ | ⟨L, W⟩
    · have HP := Lib.hid (HP.out.mono (R' := fun e w' => Below w2.heap.size w2 w' ∧ e = .returned (.tuple #[.pointer none, .int .i64 4])) fun e w' h => by rw [Parsed, hpl] at h; exact h)
      have HR := Lib.hid fun w => (HR.out w).mono (R' := fun e w' => Below w.heap.size w w' ∧ e = .returned (.tuple #[.pointer none, .int .i64 4])) fun e w' h => by rw [RefParsed, hpl] at h; exact h
      go_enter Try.func8, Try.ntmps8
      go_wp2_with fail
      rw [← HW1.out, ← HW2.out]
      refine HBe.out.mono ?_
      rintro e w' ⟨rfl, rfl⟩
      go_wp2_with fail
      refine HP.out.mono ?_
      rintro e w3 ⟨b3, rfl⟩
      have B3 := Lib.hid (HB.out.trans (b3.mono HB.out.size))
      clear b3
      go_wp2_with fail
      refine (HR.out w3).mono ?_
      rintro e w4 ⟨b4, rfl⟩
      have B4 := Lib.hid (B3.out.trans (b4.mono B3.out.size))
      clear b4
      go_wp2_with fail
      go_ret
      exact ⟨rfl, B4.out⟩
    · have hll := parse_len hpl
      have HP := Lib.hid (HP.out.mono (R' := fun e w' => Below w2.heap.size w2 w' ∧ ∃ p F, e = .returned (.tuple #[.pointer (some ⟨p, 0, none⟩), .int .i64 0]) ∧ IntsF w' p F L W ∧ (∀ k, F k → w2.heap.size ≤ k)) fun e w' h => by rw [Parsed, hpl] at h; exact h)
      have HR := Lib.hid fun w => (HR.out w).mono (R' := fun e w' => Below w.heap.size w w' ∧ ∃ r G, e = .returned (.tuple #[.pointer (some ⟨r, 0, none⟩), .int .i64 0]) ∧ RefF w' r G L W ∧ (∀ k, G k → w.heap.size ≤ k)) fun e w' h => by rw [RefParsed, hpl] at h; exact h
      clear hpl
      go_enter Try.func8, Try.ntmps8
      go_wp2_with fail
      rw [← HW1.out, ← HW2.out]
      refine HBe.out.mono ?_
      rintro e w' ⟨rfl, rfl⟩
      go_wp2_with fail
      refine HP.out.mono ?_
      rintro e w3 ⟨b3, p, F, rfl, p3, k3⟩
      have B3 := Lib.hid (HB.out.trans (b3.mono HB.out.size))
      have P3 := Lib.hid p3
      have K3 := Lib.hid k3
      have Q3 := Lib.hid ((Chg.of_below (fun _ => False) b3).keep HQ.out id)
      clear b3 p3 k3
      go_wp2_with fail
      refine (HR.out w3).mono ?_
      rintro e w4 ⟨b4, r, G, rfl, r4, k4⟩
      have c4 := Chg.of_below (fun _ => False) b4
      have T4 := Lib.hid (show Twin w4 p F r G L W from ⟨P3.out.chg c4 fun _ _ => id, r4, fun k hk hg => by
        have := P3.out.lt hk
        have := k4 k hg
        omega⟩)
      have B4 := Lib.hid (B3.out.trans (b4.mono B3.out.size))
      have K4 := Lib.hid (show ∀ k, F k ∨ G k → w.heap.size < k from fun k hk => by
        have h1 := heap_lt HQ.out
        have h2 := heap_lt Q3.out
        rcases hk with hk | hk
        · have := K3.out k hk
          omega
        · have := k4 k hk
          omega)
      have hq4 := c4.keep Q3.out id
      have Q4 := Lib.hid hq4
      have HLo := Lib.hid (looks_any T4.out (by omega))
      clear b4 c4 r4 k4 P3 K3 B3 Q3 hq4 HP HR HBe
      go_wp2_with fail
      refine HLo.out.mono ?_
      rintro e w5 ⟨rfl, b5⟩
      have c5 := Chg.of_below (fun _ => False) b5
      have T5 := Lib.hid (T4.out.chg c5 (fun _ _ => id) fun _ _ => id)
      have B5 := Lib.hid (B4.out.trans (b5.mono B4.out.size))
      have hq5 := c5.keep Q4.out id
      have q50 := cell_in hq5 (i := 0) rfl
      have q51 := cell_in hq5 (i := 1) rfl
      have HA := Lib.hid (asked_any T5.out (by omega) kd n HNn.out)
      clear b5 c5 T4 B4 Q4 HLo hq5
      go_wp2_with fail
      refine HA.out.mono ?_
      rintro e w6 ⟨rfl, F', G', L', W', t6, l6, k6, c6⟩
      have B6 := Lib.hid (belowChg B5.out c6 B5.out.size fun k hk _ => Nat.le_of_lt (K4.out k hk))
      have HLo := Lib.hid (looks_any t6 (by omega))
      clear t6 k6 c6 T5 B5 q50 q51
      go_wp2_with fail
      refine HLo.out.mono ?_
      rintro e w7 ⟨rfl, b7⟩
      have B7 := Lib.hid (B6.out.trans (b7.mono B6.out.size))
      clear b7 B6 HLo HA
      go_wp2_with fail
      go_ret
      exact ⟨rfl, B7.out⟩
end Go.Proofs.Ytncdckakcmoejaa
