/- sort.Search over a predicate that only reads. -/
import Derived.Test.YtbjpfnafhhbmaaaRows
import Derived.Test.YtbjpfnafhhbmaaaBase
import Derived.WalkKit
import Derived.WalkSpells
import Derived.WalkLawsBesides
import Derived.Lib.Hide
import Derived.Deep.QuietTactic
import Derived.BigQuiet
namespace Go.Proofs.Ytbjpfnafhhbmaaa
set_option linter.unusedVariables false
set_option linter.unusedSimpArgs false
open Go.RowKit
/-- What sort.Search finds: the first place that the predicate holds at. -/
def Found (n : Nat) (pred : Nat → Bool) (w : World) (e : Ending) (w' : World) : Prop :=
  ∃ r : Nat, r ≤ n ∧ e = .returned (.int .i64 r) ∧ (∀ k, k < r → pred k = false) ∧ (∀ k, r ≤ k → k < n → pred k = true) ∧ ∃ m, w' = w.drewN m
set_option maxHeartbeats 400000 in
theorem search_any (n : Nat) (F : FuncId) (cap : Array Value) (pred : Nat → Bool) (w : World) (hn : n ≤ 4611686018427387904)
    (hcf : ∀ (w : World) (args : Array Value), (callFunc F args).run Try.prog w = .ok (.enter F args) w)
    (hF : ∀ i, i < n → ∀ m, Calls Try.prog F (#[.int .i64 i] ++ cap) (w.drewN m) fun e w' => e = .returned (.bool (pred i)) ∧ ∃ m', w' = (w.drewN m).drewN m')
    (mono : ∀ i j, i ≤ j → j < n → pred i = true → pred j = true) :
    Calls Try.prog 22 #[.int .i64 n, .func (.func F) #[] cap] w (Found n pred w) := by
  have HF := Lib.hid hF
  have HM := Lib.hid mono
  clear hF mono
  go_enter Try.func22, Try.ntmps22
  go_wp2_with fail
  go_loopw [5, 6, 7] (fun i j _ wr => ∃ a b : Nat, a ≤ b ∧ b ≤ n ∧ i = .int .i64 a ∧ j = .int .i64 b ∧ Hid ((∀ k, k < a → pred k = false) ∧ (∀ k, b ≤ k → k < n → pred k = true)) ∧ ∃ m, wr = w.drewN m) (fun i j _ _ => (intOf j - intOf i).toNat)
  case atStart => exact ⟨0, n, by omega, by omega, rfl, rfl, Lib.hid ⟨fun k hk => by omega, fun k h1 h2 => by omega⟩, 0, rfl⟩
  case round =>
    obtain ⟨a, b, hab, hbn, rfl, rfl, HI, m, rfl⟩ := hrel
    by_cases hlt : a < b
    · obtain ⟨h, hh⟩ : ∃ h : Nat, h = (a + b) / 2 := ⟨_, rfl⟩
      have hc := HF.out h (by omega) m
      rw [show ((h : Nat) : Int) = ((a : Int) + (b : Int)) / 2 by omega] at hc
      have HC := Lib.hid hc
      clear hc
      have HH := Lib.hid hh
      clear hh
      cases hp : pred h with
      | true =>
        rw [hp] at HC
        have HP := Lib.hid hp
        clear hp
        go_wp2_with fail
        refine HC.out.mono ?_
        rintro e w' ⟨rfl, m', rfl⟩
        go_wp2_with fail
        go_roundw
        case rel =>
          have hh := HH.out
          refine ⟨a, h, by omega, by omega, rfl, ?_, Lib.hid ⟨HI.out.1, fun k h1 h2 => HM.out h k h1 h2 HP.out⟩, m + m', by simp⟩
          rw [show ((h : Nat) : Int) = ((a : Int) + (b : Int)) / 2 by omega]
        case measure => simp [intOf]; omega
      | false =>
        rw [hp] at HC
        have HP := Lib.hid hp
        clear hp
        go_wp2_with fail
        refine HC.out.mono ?_
        rintro e w' ⟨rfl, m', rfl⟩
        go_wp2_with fail
        go_roundw
        case rel =>
          have hh := HH.out
          refine ⟨h + 1, b, by omega, by omega, ?_, rfl, Lib.hid ⟨fun k hk => ?_, HI.out.2⟩, m + m', by simp⟩
          · rw [show ((h + 1 : Nat) : Int) = ((a : Int) + (b : Int)) / 2 + 1 by omega]
          · cases hk' : pred k with
            | false => rfl
            | true =>
              have := HM.out k h (by omega) (by omega) hk'
              rw [HP.out] at this; cases this
        case measure => simp [intOf]; omega
    · have : b = a := by omega
      subst this
      go_wp2_with fail
      go_ret
      exact ⟨b, hbn, rfl, HI.out.1, HI.out.2, m, rfl⟩
end Go.Proofs.Ytbjpfnafhhbmaaa
