import Derived.Test.YtcoepekoacpgnaaDoorRows
import Derived.Test.YtcoepekoacpgnaaDoorCom
import Derived.WalkKit
import Derived.WalkSpells
import Derived.WalkLawsBesides
import Derived.Lib.Hide
namespace Go.Proofs.YtcoepekoacpgnaaDoor
set_option linter.unusedVariables false
set_option linter.unusedSimpArgs false
open Go.RowKit

theorem lowStep (xs : List UInt8) (k : Nat) (h : k < xs.length) (h8 : xs.length ≤ 8) :
    bits .or .u64 (IntKind.u64.wrap ((lowN (xs.drop (k + 1)) : Nat) * 256)) (IntKind.u64.wrap (xs[k].toNat : Int)) = ((lowN (xs.drop k) : Nat) : Int) := by
  have h1 := lowN_drop xs k h
  have h2 := lowN_lt64 (xs.drop k) (by simp; omega)
  have h3 := xs[k].toNat_lt
  rw [IntWalk.u64_in _ ⟨by omega, by omega⟩, IntWalk.u64_in _ ⟨by omega, by omega⟩]
  have := u64_or_low (lowN (xs.drop (k + 1))) xs[k].toNat (by omega) (by omega)
  rw [h1, ← this]; congr 1

set_option maxHeartbeats 400000 in
theorem low_any (b o len cap : Nat) (xs : List UInt8) (w : World) (hlen : xs.length = len) (h8 : len ≤ 8)
    (hc : ∀ i (h : i < xs.length), w.cell? ⟨b, o + i, none⟩ = some (.int .u8 xs[i].toNat)) :
    Calls Tryd.prog 42 #[.slice (some ⟨b, o, none⟩) len cap] w fun e w' => e = .returned (.int .u64 (lowN xs : Nat)) ∧ w = w' := by
  subst hlen
  have HC := Lib.hid hc
  clear hc
  go_enter Tryd.func42, Tryd.ntmps42
  go_wp2
  go_loop [2, 3] (fun n i => ∃ k : Nat, k ≤ xs.length ∧ i = .int .i64 ((k : Int) - 1) ∧ n = .int .u64 (lowN (xs.drop k) : Nat)) (fun _ i => (intOf i + 1).toNat)
  case atStart => exact ⟨xs.length, Nat.le_refl _, rfl, by simp [lowN]⟩
  case round =>
    obtain ⟨k, hk, rfl, rfl⟩ := hrel
    cases k with
    | zero =>
      go_wp2
      go_ret
      exact ⟨rfl, rfl⟩
    | succ k =>
      have hcell := HC.out k (by omega)
      go_wp2
      go_round
      case rel => exact ⟨k, by omega, rfl, by rw [lowStep xs k hk h8]⟩
      case measure => simp [intOf]

set_option maxHeartbeats 400000 in
theorem put_any (b o len cap : Nat) (n : Nat) (cs : Array Value) (E : TypeId) (w : World) (hl : len ≤ 8) (ho : o + len ≤ cs.size)
    (hb : RowAt w b E cs) :
    Calls Tryd.prog 82 #[.slice (some ⟨b, o, none⟩) len cap, .int .u64 n] w fun e w' => e = .returned (.tuple #[]) ∧ w' = w.setRow b (wrs cs o ((leN len n).map u8v)) := by
  have HB := Lib.hid hb
  clear hb
  go_enter Tryd.func82, Tryd.ntmps82
  go_wp2
  go_loopw [1, 4, 7] (fun m _ i wr => ∃ k : Nat, k ≤ len ∧ i = .int .i64 (k : Int) ∧ m = .int .u64 ((n / 256 ^ k : Nat) : Int) ∧ wr = w.setRow b (wrs cs o ((leN k n).map u8v))) (fun _ _ i _ => len - (intOf i).toNat)
  case atStart => exact ⟨0, Nat.zero_le _, rfl, by simp, HB.out.setSame.symm⟩
  case round =>
    obtain ⟨k, hk, rfl, rfl, rfl⟩ := hrel
    have hrow := HB.out.setRow (cs := wrs cs o ((leN k n).map u8v)) (by simp)
    by_cases hlt : k < len
    · have hcell : (w.setRow b (wrs cs o ((leN k n).map u8v))).cell? ⟨b, o + k, none⟩ = some ((wrs cs o ((leN k n).map u8v))[o + k]'(by simp; omega)) := hrow.cell (by simp)
      have hfr : (w.setRow b (wrs cs o ((leN k n).map u8v))).frozen? ⟨b, o + k, none⟩ = false := hrow.free (by simp; omega)
      clear hrow
      go_wp2
      go_roundw
      case rel => 
        refine ⟨k + 1, by omega, by go_num, ?_, ?_⟩
        · rw [Nat.pow_succ, ← Nat.div_div_eq_div_mul]; simp
        · rw [HB.out.setSet, leN_snoc, List.map_append, List.map_cons, List.map_nil, wrs_snoc]
          simp [u8v_of]
      case measure => simp [intOf]; omega
    · have : k = len := by omega
      subst this
      go_wp2
      go_end0
      exact ⟨rfl, rfl⟩
end Go.Proofs.YtcoepekoacpgnaaDoor
