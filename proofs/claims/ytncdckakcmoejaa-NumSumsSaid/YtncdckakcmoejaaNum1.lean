import Derived.Test.YtncdckakcmoejaaRows
import Derived.Test.YtncdckakcmoejaaBase
import Derived.WalkKit
import Derived.WalkSpells
import Derived.WalkLawsBesides
import Derived.Lib.Hide
import Derived.Deep.QuietTactic
import Derived.BigQuiet
import Derived.OpenShut
import Derived.Deep.DeepFit
namespace Go.Proofs.Ytncdckakcmoejaa
set_option linter.unusedVariables false
set_option linter.unusedSimpArgs false
open Go.RowKit

/-- The sum, and whether it is one. -/
def sumOf (a b : Int) : Int × Bool := if -9223372036854775808 ≤ a + b ∧ a + b ≤ 9223372036854775807 then (a + b, true) else (0, false)
def sumVal (a b : Int) : Value := .tuple #[.int .i64 (sumOf a b).1, .bool (sumOf a b).2]
theorem sumVal_yes {a b : Int} (h : -9223372036854775808 ≤ a + b ∧ a + b ≤ 9223372036854775807) : sumVal a b = .tuple #[.int .i64 (a + b), .bool true] := by unfold sumVal sumOf; rw [if_pos h]
theorem sumVal_no {a b : Int} (h : ¬ (-9223372036854775808 ≤ a + b ∧ a + b ≤ 9223372036854775807)) : sumVal a b = .tuple #[.int .i64 0, .bool false] := by unfold sumVal sumOf; rw [if_neg h]
theorem wrap_no {a b : Int} (ha : -9223372036854775808 ≤ a ∧ a ≤ 9223372036854775807) (hb : -9223372036854775808 ≤ b ∧ b ≤ 9223372036854775807)
    (h : ¬ (-9223372036854775808 ≤ a + b ∧ a + b ≤ 9223372036854775807)) : (!decide (a < wrap64 (a + b)) == decide (0 < b)) = true ∧ (b != 0) = true ∧ (decide (a < wrap64 (a + b)) = !decide (0 < b)) := by
  unfold wrap64
  by_cases h0 : 0 < b
  · have : ¬ a < (a + b + 9223372036854775808) % 18446744073709551616 - 9223372036854775808 := by omega
    simp [this, h0]; omega
  · have : a < (a + b + 9223372036854775808) % 18446744073709551616 - 9223372036854775808 := by omega
    simp [this, h0]; omega

set_option maxHeartbeats 400000 in
theorem add_any (a b : Int) (w : World) (ha : -9223372036854775808 ≤ a ∧ a ≤ 9223372036854775807) (hb : -9223372036854775808 ≤ b ∧ b ≤ 9223372036854775807) :
    Calls Try.prog 11 #[.int .i64 a, .int .i64 b] w fun e w' => e = .returned (sumVal a b) ∧ w' = w := by
  by_cases h : -9223372036854775808 ≤ a + b ∧ a + b ≤ 9223372036854775807
  · have H := Lib.hid (sumVal_yes h)
    obtain ⟨h1, h2⟩ := h
    obtain ⟨a1, a2⟩ := ha
    obtain ⟨b1, b2⟩ := hb
    have c : ((!decide (a < a + b) == decide (0 < b)) && (b != 0)) = false := by
      rcases Int.lt_trichotomy b 0 with h | h | h <;> simp <;> omega
    go_enter Try.func11, Try.ntmps11
    go_wp2
    go_ret2
    exact ⟨by rw [H.out]; rfl, rfl⟩
  · obtain ⟨c1, c2, c3⟩ := wrap_no ha hb h
    have H := Lib.hid (sumVal_no h)
    clear ha hb h
    have C1 := Lib.hid c1
    clear c1
    go_enter Try.func11, Try.ntmps11
    go_wp2
    go_ret2
    exact ⟨by rw [H.out]; rfl, rfl⟩

set_option maxHeartbeats 400000 in
theorem radd_any (a b : Int) (w : World) (ha : -9223372036854775808 ≤ a ∧ a ≤ 9223372036854775807) (hb : -9223372036854775808 ≤ b ∧ b ≤ 9223372036854775807) :
    Calls Try.prog 12 #[.int .i64 a, .int .i64 b] w fun e w' => e = .returned (sumVal a b) ∧ w' = w := by
  obtain ⟨a1, a2⟩ := ha
  obtain ⟨b1, b2⟩ := hb
  by_cases h : -9223372036854775808 ≤ a + b ∧ a + b ≤ 9223372036854775807
  · have H := Lib.hid (sumVal_yes h)
    obtain ⟨h1, h2⟩ := h
    by_cases p : 0 < b
    · have c : decide (9223372036854775807 - b < a) = false := by simp; omega
      have d : decide (b < 0) = false := by simp; omega
      go_enter Try.func12, Try.ntmps12
      go_wp2
      go_ret2
      exact ⟨by rw [H.out]; rfl, rfl⟩
    · by_cases q : b < 0
      · have c : decide (a < -9223372036854775808 - b) = false := by simp; omega
        go_enter Try.func12, Try.ntmps12
        go_wp2
        go_ret2
        exact ⟨by rw [H.out]; rfl, rfl⟩
      · go_enter Try.func12, Try.ntmps12
        go_wp2
        go_ret2
        exact ⟨by rw [H.out]; rfl, rfl⟩
  · have H := Lib.hid (sumVal_no h)
    by_cases p : 0 < b
    · have c : decide (9223372036854775807 - b < a) = true := by simp; omega
      clear h
      go_enter Try.func12, Try.ntmps12
      go_wp2
      go_ret2
      exact ⟨by rw [H.out]; rfl, rfl⟩
    · have q : b < 0 := by omega
      have c : decide (a < -9223372036854775808 - b) = true := by simp; omega
      clear h
      go_enter Try.func12, Try.ntmps12
      go_wp2
      go_ret2
      exact ⟨by rw [H.out]; rfl, rfl⟩

/-- Less, as the model has it. -/
def lessB (a b : Nat) : Bool := FloatKind.f64.format.order a b == some Ordering.lt
set_option maxHeartbeats 400000 in
theorem less_any (a b : Nat) (w : World) :
    Calls Try.prog 13 #[.float .f64 a, .float .f64 b] w fun e w' => e = .returned (.bool (lessB a b)) ∧ w' = w := by
  go_enter Try.func13, Try.ntmps13
  go_wp2
  go_ret
  exact ⟨rfl, rfl⟩
set_option maxHeartbeats 400000 in
theorem rless_any (a b : Nat) (w : World) :
    Calls Try.prog 14 #[.float .f64 a, .float .f64 b] w fun e w' => e = .returned (.bool (lessB a b)) ∧ w' = w := by
  go_enter Try.func14, Try.ntmps14
  go_wp2
  go_ret
  exact ⟨rfl, rfl⟩
theorem sumVal_mk (a b : Int) : ∃ n c, sumVal a b = .tuple #[.int .i64 n, .bool c] := ⟨_, _, rfl⟩
set_option maxHeartbeats 400000 in
theorem numSums_walk (a b : Int) (c d : Nat) (w : World) (ha : (Lit.int .i64 a).wf = true) (hb : (Lit.int .i64 b).wf = true) :
    Calls Try.prog 3 #[.int .i64 a, .int .i64 b, .agg #[.float .f64 c, .float .f64 d]] w fun e w' => e = .returned (.bool true) ∧ Below w.heap.size w w' := by
  have wa := bounds_i64 ha
  have wb := bounds_i64 hb
  clear ha hb
  obtain ⟨n, k, hnk⟩ := sumVal_mk a b
  have h1 := fun w => (add_any a b w wa wb)
  have h2 := fun w => (radd_any a b w wa wb)
  rw [hnk] at h1 h2
  have H1 := Lib.hid h1
  have H2 := Lib.hid h2
  clear h1 h2 hnk wa wb
  generalize hl : lessB c d = l
  have h3 := fun w => less_any c d w
  have h4 := fun w => rless_any c d w
  rw [hl] at h3 h4
  have H3 := Lib.hid h3
  have H4 := Lib.hid h4
  clear h3 h4 hl
  go_enter Try.func3, Try.ntmps3
  go_wp2_with fail
  refine (H1.out _).mono ?_
  rintro e w' ⟨rfl, rfl⟩
  go_wp2_with fail
  refine (H2.out _).mono ?_
  rintro e w' ⟨rfl, rfl⟩
  go_wp2_with fail
  go_quiet ((first | exact Calls.quiet_of_same (H3.out _) | exact Calls.quiet_of_same (H4.out _)))
  go_wp2_with fail
  go_ret
  exact ⟨rfl, belowN ((Below.refl _ _).alloc (Nat.le_refl _) _) _⟩
end Go.Proofs.Ytncdckakcmoejaa
