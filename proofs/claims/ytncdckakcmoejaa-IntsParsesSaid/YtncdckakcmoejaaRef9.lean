/- stillroomref06: signed. -/
import Derived.Test.YtncdckakcmoejaaRef8
namespace Go.Proofs.Ytncdckakcmoejaa
set_option linter.unusedVariables false
set_option linter.unusedSimpArgs false
open Go.RowKit
theorem top_byte (l : List UInt8) (K : Nat) (hK : K = 2 ∨ K = 4) (hl : l.length = K) : (128 ≤ (l[K - 1]'(by omega)).toNat ↔ 128 * 256 ^ (K - 1) ≤ lowN l) ∧ lowN l < 256 ^ K := by
  have hlt := lowN_lt l
  rw [hl] at hlt
  refine ⟨?_, hlt⟩
  rcases hK with rfl | rfl
  · match l, hl with
    | [a, b], _ =>
      have := a.toNat_lt
      have := b.toNat_lt
      simp [lowN]; omega
  · match l, hl with
    | [a, b, c, d], _ =>
      have := a.toNat_lt
      have := b.toNat_lt
      have := c.toNat_lt
      have := d.toNat_lt
      simp [lowN]; omega
set_option maxHeartbeats 800000 in
set_option maxRecDepth 100000 in
theorem refSigned (s : ByteArray) (w : World) (hs : s.size = 2 ∨ s.size = 4 ∨ s.size = 8) : Calls Try.prog 64 #[.string s] w fun e w' => e = .returned (.int .i64 (decW s.size (lowN s.data.toList))) ∧ w = w' := by
  have HN := Lib.hid (refNumber s w (by omega))
  have hlen : s.data.toList.length = s.size := by simp
  have hlt := lowN_lt64 s.data.toList (by omega)
  by_cases h8 : s.size = 8
  · have HV := Lib.hid (show decW s.size (lowN s.data.toList) = wrap64 (lowN s.data.toList) by rw [h8, wrap64_is]; rfl)
    have e8 : decide ((s.size : Int) < 8) = false := by simp; omega
    clear hs hlen
    generalize lowN s.data.toList = n at *
    go_enter Try.func64, Try.ntmps64
    go_wp2_with fail
    refine HN.out.mono ?_
    rintro e w' ⟨rfl, rfl⟩
    go_wp2_with fail
    go_ret
    exact ⟨ret1 (by rw [HV.out]; rfl), rfl⟩
  · have hK : s.size = 2 ∨ s.size = 4 := by omega
    have htop := top_byte s.data.toList s.size hK hlen
    have e8 : decide ((s.size : Int) < 8) = true := by simp; omega
    have hkd : s.size - 1 < s.data.size := by have : s.data.size = s.size := rfl; omega
    have hg : (s.data.toList[s.size - 1]'(by omega)).toNat = s.data[s.size - 1].toNat := by simp
    rw [hg] at htop
    go_enter Try.func64, Try.ntmps64
    go_wp2_with fail
    refine HN.out.mono ?_
    rintro e w' ⟨rfl, rfl⟩
    go_wp2_with fail
    rotate_left
    · rename_i hc
      have hs' : (s.data[s.size - 1].toNat : Int) < 128 := hc
      have hn : ¬ 128 * 256 ^ (s.size - 1) ≤ lowN s.data.toList := fun h => by have := htop.1.2 h; omega
      have hv : wrap64 (lowN s.data.toList : Int) = decW s.size (lowN s.data.toList) := by
        rw [wrap64_is]
        rcases hK with h | h
        · rw [h] at hn ⊢; simp [decW, IntKind.wrap, IntKind.bits, IntKind.signed] at *; omega
        · rw [h] at hn ⊢; simp [decW, IntKind.wrap, IntKind.bits, IntKind.signed] at *; omega
      go_ret
      exact ⟨ret1 (by rw [← hv]; rfl), rfl⟩
    have hs' : (128 : Int) ≤ (s.data[s.size - 1].toNat : Int) := by assumption
    have hn : 128 * 256 ^ (s.size - 1) ≤ lowN s.data.toList := htop.1.1 (by omega)
    have hv : (-(((256 ^ s.size : Nat) : Int) - (lowN s.data.toList : Nat))) = decW s.size (lowN s.data.toList) := by
      have h2 := htop.2
      rcases hK with h | h
      · rw [h] at hn h2 ⊢; simp [decW, IntKind.wrap, IntKind.bits, IntKind.signed] at *; omega
      · rw [h] at hn h2 ⊢; simp [decW, IntKind.wrap, IntKind.bits, IntKind.signed] at *; omega
    have hP : 256 ^ s.size ≤ 4294967296 := by rcases hK with h | h <;> rw [h] <;> decide
    have hPn := htop.2
    have HV := Lib.hid hv
    have hmon : ∀ k, k < s.size → 256 ^ (k + 1) ≤ 256 ^ s.size := fun k hk => Nat.pow_le_pow_right (by decide) hk
    have HM := Lib.hid hmon
    clear hv hn hs' htop hg hmon hlen hs
    obtain ⟨n, hnn⟩ : ∃ n, n = lowN s.data.toList := ⟨_, rfl⟩
    rw [← hnn] at hPn hlt HV HN ⊢
    have HNN := Lib.hid hnn
    clear hnn
    go_loop [4, 5] (fun f i => ∃ k : Nat, k ≤ s.size ∧ i = .int .i64 k ∧ f = .int .u64 ((256 ^ k : Nat) : Int)) (fun _ i => s.size - (intOf i).toNat)
    case atStart => exact ⟨0, Nat.zero_le _, rfl, rfl⟩
    case round =>
      obtain ⟨k, hk, rfl, rfl⟩ := hrel
      by_cases hlt2 : k < s.size
      · have hm := HM.out k hlt2
        rw [Nat.pow_succ, Nat.mul_comm] at hm
        have HP := Lib.hid (show 256 ^ (k + 1) = 256 * 256 ^ k by rw [Nat.pow_succ, Nat.mul_comm])
        generalize 256 ^ k = q at *
        generalize 256 ^ s.size = P at *
        go_wp2_with fail
        go_round
        case rel => exact ⟨k + 1, by omega, by go_num, by rw [HP.out]; go_num⟩
        case measure => simp [intOf]; omega
      · have : k = s.size := by omega
        subst this
        generalize 256 ^ s.size = P at *
        go_wp2_with fail
        go_ret
        exact ⟨ret1 (by rw [← HNN.out, ← HV.out]; rfl), rfl⟩
end Go.Proofs.Ytncdckakcmoejaa
