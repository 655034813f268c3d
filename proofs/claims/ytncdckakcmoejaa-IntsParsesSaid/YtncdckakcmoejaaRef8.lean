/- stillroomref06: number, signed; stillroomlaw01: Beyond. -/
import Derived.Test.YtncdckakcmoejaaRef7
namespace Go.Proofs.Ytncdckakcmoejaa
set_option linter.unusedVariables false
set_option linter.unusedSimpArgs false
open Go.RowKit
theorem lowN_get (l : List UInt8) (k : Nat) (h : k < l.length) : lowN (l.drop k) = 256 * lowN (l.drop (k + 1)) + l[k].toNat := by
  have := lowN_drop l k h
  omega
set_option maxHeartbeats 800000 in
theorem refNumber (s : ByteArray) (w : World) (hs : s.size ≤ 8) : Calls Try.prog 63 #[.string s] w fun e w' => e = .returned (.int .u64 (lowN s.data.toList)) ∧ w = w' := by
  have hlen : s.data.toList.length = s.size := by simp
  have H0 := Lib.hid hlen
  clear hlen
  go_enter Try.func63, Try.ntmps63
  go_wp2_with fail
  go_loop [3, 4] (fun n i => ∃ k : Nat, k ≤ s.size ∧ i = .int .i64 ((k : Int) - 1) ∧ n = .int .u64 (lowN (s.data.toList.drop k) : Nat)) (fun _ i => (intOf i + 1).toNat)
  case atStart => exact ⟨s.size, Nat.le_refl _, rfl, by rw [← H0.out, List.drop_length]; rfl⟩
  case round =>
    obtain ⟨k, hk, rfl, rfl⟩ := hrel
    cases k with
    | zero =>
      go_wp2_with fail
      go_ret
      exact ⟨rfl, rfl⟩
    | succ k =>
      have hl := lowN_get s.data.toList k (by rw [H0.out]; omega)
      have hlt := lowN_lt64 (s.data.toList.drop k) (by simp; omega)
      have hkd : k < s.data.size := by have : s.data.size = s.size := rfl; omega
      have hg : s.data[k].toNat = (s.data.toList[k]'(by rw [H0.out]; omega)).toNat := by simp
      have hb := s.data[k].toNat_lt
      rw [← hg] at hl
      have hfin : Value.int IntKind.u64 (IntKind.u64.wrap (256 * ((lowN (s.data.toList.drop (k + 1)) : Nat) : Int) + IntKind.u64.wrap (s.data[k].toNat : Int))) = .int .u64 (lowN (s.data.toList.drop k) : Nat) := by
        rw [hl, IntWalk.u64_in (s.data[k].toNat : Int) ⟨by omega, by omega⟩, IntWalk.u64_in _ ⟨by omega, by omega⟩]
        simp
      have hbd : 256 * lowN (s.data.toList.drop (k + 1)) < 18446744073709551616 := by omega
      have HFin := Lib.hid hfin
      clear hl hg hb hfin
      go_wp2_with fail
      go_round
      case rel => exact ⟨k, by omega, rfl, HFin.out⟩
      case measure => simp [intOf]
theorem beyond_any (w : World) (a : Option Addr) (len cap : Nat) (zs : List Nat) (hlen : zs.length = len) (ha : ArgRow w a len cap fun i => .int .i64 (zs.getD i 0 : Nat)) (hz : ∀ x ∈ zs, x ≤ 140737488355328) (hm : len ≤ 1000000000) :
    Calls Try.prog 35 #[.slice a len cap] w fun e w' => e = .returned (.bool (decide (1048576 < zs.sum))) ∧ w = w' := by
  have HA := Lib.hid ha
  have HL := Lib.hid hlen
  have HZ := Lib.hid hz
  have hlc := ha.1
  clear ha hlen hz
  go_enter Try.func35, Try.ntmps35
  go_wp2_with fail
  go_loop [3, 4] (fun n i => ∃ k : Nat, k ≤ len ∧ i = .int .i64 k ∧ n = .int .i64 ((zs.take k).sum : Nat) ∧ (zs.take k).sum ≤ 1048576) (fun _ i => len - (intOf i).toNat)
  case atStart => exact ⟨0, Nat.zero_le _, rfl, rfl, by simp⟩
  case round =>
    obtain ⟨k, hk, rfl, rfl, hI⟩ := hrel
    by_cases hlt : k < len
    · obtain ⟨b, o, hb, hc⟩ := HA.out.2.resolve_left (by omega)
      subst hb
      have hcell : w.cell? ⟨b, o + k, none⟩ = some (.int .i64 (zs.getD k 0 : Nat)) := hc k hlt
      have hkl : k < zs.length := by rw [HL.out]; exact hlt
      have htk : (zs.take (k + 1)).sum = (zs.take k).sum + zs.getD k 0 := by rw [List.take_succ_eq_append_getElem hkl, List.sum_append, List.sum_cons, List.sum_nil]; simp [List.getD, hkl]
      have hzk := HZ.out (zs.getD k 0) (by simp [List.getD, hkl])
      have htot : (zs.take (k + 1)).sum ≤ zs.sum := by
        have := congrArg List.sum (List.take_append_drop (k + 1) zs)
        rw [List.sum_append] at this
        omega
      have HT := Lib.hid (And.intro htk htot)
      clear htk htot hc
      generalize zs.getD k 0 = y at *
      generalize (zs.take k).sum = q at *
      by_cases hgt : 1048576 < q + y
      · have e1 : decide ((1048576 : Int) < (q : Int) + (y : Int)) = true := by simp; omega
        have hr : decide (1048576 < zs.sum) = true := by have := HT.out; simp; omega
        have HR := Lib.hid hr
        clear hr
        go_wp2_with fail
        go_ret
        exact ⟨ret1 (by rw [HR.out]; rfl), rfl⟩
      · have e1 : decide ((1048576 : Int) < (q : Int) + (y : Int)) = false := by simp; omega
        go_wp2_with fail
        go_round
        case rel => exact ⟨k + 1, by omega, by go_num, by rw [HT.out.1]; go_num, by rw [HT.out.1]; omega⟩
        case measure => simp [intOf]; omega
    · have : k = len := by omega
      subst this
      have hr : decide (1048576 < zs.sum) = false := by rw [← HL.out, List.take_length] at hI; simp; omega
      have HR := Lib.hid hr
      clear hr
      go_wp2_with fail
      go_ret
      exact ⟨ret1 (by rw [HR.out]; rfl), rfl⟩
end Go.Proofs.Ytncdckakcmoejaa
