/- The laws of the layer ints: alive. -/
import Derived.Test.YtncdckakcmoejaaInts8
namespace Go.Proofs.Ytncdckakcmoejaa
set_option linter.unusedVariables false
set_option linter.unusedSimpArgs false
open Go.RowKit
theorem alive_bytes : strOf (intsBytes [-1, 5] 2) = ⟨#[2, 0, 0, 0, 2, 0, 0, 0, 255, 255, 5, 0]⟩ := by decide
set_option maxHeartbeats 1600000 in
theorem alive6_any (w : World) : Calls Try.prog 15 #[] w fun e w' => e = .returned (.bool true) ∧ Below w.heap.size w w' := by
  have HN := Lib.hid (newF w)
  go_enter Try.func15, Try.ntmps15
  go_wp2_with fail
  refine HN.out.mono ?_
  rintro e w1 ⟨rfl, h1, h2⟩
  obtain ⟨p, hp⟩ : ∃ p, p = w.heap.size + 1 := ⟨_, rfl⟩
  rw [← hp] at h1 ⊢
  have hF : ∀ k, (k = p ∨ k = w.heap.size) → w.heap.size ≤ k := fun k hk => by omega
  generalize hFF : (fun k => k = p ∨ k = w.heap.size) = F at *
  have hF' : ∀ k, F k → w.heap.size ≤ k := fun k hk => by rw [← hFF] at hk; exact hF k hk
  have B1 := Lib.hid (belowChg (Below.refl w.heap.size w) h2 (Nat.le_refl _) fun k hk => hk.elim)
  have KF := Lib.hid hF'
  have A1 := Lib.hid (addF h1 5 (by omega) (by simp))
  clear h1 h2 hp hF hFF hF' HN
  go_wp2_with fail
  refine A1.out.mono ?_
  rintro e w2 ⟨rfl, F2, q1, q2, q3⟩
  have B2 := Lib.hid (belowChg B1.out q3 B1.out.size fun k hk _ => KF.out k hk)
  have KF2 := Lib.hid (show ∀ k, F2 k → w.heap.size ≤ k from fun k hk => (q2 k hk).elim (KF.out k) fun h => Nat.le_trans B1.out.size h)
  have A2 := Lib.hid (addF q1 (-1) (by omega) (by simp [ins]))
  clear q1 q2 q3 A1
  go_wp2_with fail
  refine A2.out.mono ?_
  rintro e w3 ⟨rfl, F3, q1, q2, q3⟩
  have B3 := Lib.hid (belowChg B2.out q3 B2.out.size fun k hk _ => KF2.out k hk)
  have KF3 := Lib.hid (show ∀ k, F3 k → w.heap.size ≤ k from fun k hk => (q2 k hk).elim (KF2.out k) fun h => Nat.le_trans B2.out.size h)
  have A3 := Lib.hid (addF q1 5 (by omega) (by simp [ins]))
  clear q1 q2 q3 A2
  go_wp2_with fail
  refine A3.out.mono ?_
  rintro e w4 ⟨rfl, F4, q1, q2, q3⟩
  have B4 := Lib.hid (belowChg B3.out q3 B3.out.size fun k hk _ => KF3.out k hk)
  have KF4 := Lib.hid (show ∀ k, F4 k → w.heap.size ≤ k from fun k hk => (q2 k hk).elim (KF3.out k) fun h => Nat.le_trans B3.out.size h)
  have hL : ins (ins (ins [] 5) (-1)) 5 = [-1, 5] := by decide
  have hW : max (max (max 2 (wantsN 5)) (wantsN (-1))) (wantsN 5) = 2 := by decide
  rw [hL, hW] at q1
  have A4 := Lib.hid (AtF q1 0)
  have Q1 := Lib.hid q1
  have hat : atVal [-1, 5] 0 = .tuple #[.int .i64 (-1), .bool true] := by rfl
  rw [hat] at A4
  clear q1 q2 q3 A3 hL hW hat
  go_wp2_with fail
  refine A4.out.mono ?_
  rintro e w5 ⟨rfl, n5, rfl⟩
  have Q5 := Lib.hid (Q1.out.chg (Chg.drewN (fun _ => False) w4 n5) fun _ _ => id)
  have W5 := Lib.hid (widthF Q5.out)
  go_wp2_with fail
  refine W5.out.mono ?_
  rintro e w6 ⟨rfl, rfl⟩
  go_wp2_with fail
  refine (parse_short _).mono ?_
  rintro e w6 ⟨rfl, rfl⟩
  have Y5 := Lib.hid (bytesF Q5.out)
  rw [alive_bytes] at Y5
  go_wp2_with fail
  refine Y5.out.mono ?_
  rintro e w6 ⟨rfl, rfl⟩
  have A6 := Lib.hid (addF Q5.out 40000 (by omega) (by decide))
  go_wp2_with fail
  refine A6.out.mono ?_
  rintro e w7 ⟨rfl, F7, q1, q2, q3⟩
  have B7 := Lib.hid (belowChg (belowN B4.out n5) q3 B4.out.size fun k hk _ => KF4.out k hk)
  rw [show max 2 (wantsN 40000) = 4 by decide] at q1
  have W7 := Lib.hid (widthF q1)
  clear q1 q2 q3
  go_wp2_with fail
  refine W7.out.mono ?_
  rintro e w8 ⟨rfl, rfl⟩
  go_wp2_with fail
  go_ret
  exact ⟨rfl, B7.out⟩
end Go.Proofs.Ytncdckakcmoejaa
