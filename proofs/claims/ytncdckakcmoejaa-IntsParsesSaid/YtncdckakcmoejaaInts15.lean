/- The law IntsBack: the walk. -/
import Derived.Test.YtncdckakcmoejaaInts14
namespace Go.Proofs.Ytncdckakcmoejaa
set_option linter.unusedVariables false
set_option linter.unusedSimpArgs false
open Go.RowKit
set_option maxHeartbeats 6400000 in
set_option maxRecDepth 100000 in
theorem intsBack_walk (a : Option Addr) (len cap : Nat) (zs : List Int) (n : Int) (w : World)
    (h0 : zs.length = len ∧ ArgRow w a len cap (fun i => .int .i64 (zs.getD i 0)) ∧ ∀ n ∈ zs, (Lit.int .i64 n).wf = true) (h1 : (Lit.int .i64 n).wf = true) :
    Calls Try.prog 4 #[.slice a len cap, .int .i64 n] w fun e w' => e = .returned (.bool true) ∧ Below w.heap.size w w' := by
  obtain ⟨hlen, harg, hwf⟩ := h0
  have hn := bounds_i64 h1
  have HAl := Lib.hid fun w => alive6_any w
  have HArg := Lib.hid harg
  have HL := Lib.hid hlen
  have HWf := Lib.hid hwf
  have HNn := Lib.hid hn
  have hcl : len ≤ cap := harg.1
  clear hlen harg hwf hn h1
  by_cases hlong : 400 < len
  · go_enter Try.func4, Try.ntmps4
    go_wp2_with fail
    refine (HAl.out _).mono ?_
    rintro e w1 ⟨rfl, b1⟩
    have B1 := Lib.hid b1
    clear b1
    go_wp2_with fail
    refine (HAl.out _).mono ?_
    rintro e w2 ⟨rfl, b2⟩
    have B2 := Lib.hid (B1.out.trans (b2.mono B1.out.size))
    clear b2
    go_wp2_with fail
    go_ret
    exact ⟨rfl, B2.out⟩
  · have hshort : len ≤ 400 := by omega
    go_enter Try.func4, Try.ntmps4
    go_wp2_with fail
    refine (HAl.out _).mono ?_
    rintro e w1 ⟨rfl, b1⟩
    have B1 := Lib.hid b1
    have HFi := Lib.hid (filled_any w1 a len cap zs HL.out (HArg.out.below b1) HWf.out hshort)
    clear b1
    go_wp2_with fail
    refine HFi.out.mono ?_
    rintro e w2 ⟨p, F, rfl, q1, q2, b2⟩
    obtain ⟨L, hLd⟩ : ∃ L, L = insAll [] zs := ⟨_, rfl⟩
    obtain ⟨W, hWd⟩ : ∃ W, W = widthAll 2 zs := ⟨_, rfl⟩
    rw [← hLd, ← hWd] at q1
    have B2 := Lib.hid (B1.out.trans (b2.mono B1.out.size))
    have KF := Lib.hid (show ∀ k, F k → w.heap.size ≤ k from fun k hk => Nat.le_trans B1.out.size (q2 k hk))
    have hLl : L.length ≤ 400 := by have := insAll_length zs [] List.Pairwise.nil; rw [hLd]; have := HL.out; simp at *; omega
    have hW := q1.width
    have hLW : L.length * W ≤ L.length * 8 := Nat.mul_le_mul_left _ (by omega)
    have hbl := intsBytes_length L W
    have HPa := Lib.hid (parse_any (strOf (intsBytes L W)) w2 (by simp; omega))
    rw [strOf_data] at HPa
    have hpb := parse_bytes hW q1.fits q1.sorted (by omega)
    have Q2 := Lib.hid q1
    have hlm : (ins L n).length ≤ 401 := by
      have := ins_length n q1.sorted
      split at this <;> omega
    clear q1 q2 b2 hWd hLd HFi
    go_wp2_with fail
    refine (bytesF Q2.out).mono ?_
    rintro e w' ⟨rfl, rfl⟩
    go_wp2_with fail
    refine HPa.out.mono ?_
    rintro e w3 ⟨b3, h3⟩
    rw [hpb] at h3
    obtain ⟨p', F', rfl, q3, k3⟩ := h3
    have B3 := Lib.hid (B2.out.trans (b3.mono B2.out.size))
    have KF' := Lib.hid (show ∀ k, F' k → w.heap.size ≤ k from fun k hk => Nat.le_trans B2.out.size (k3 k hk))
    have HD := Lib.hid (show ∀ k, F k → ¬ F' k from fun k h h' => by have := Q2.out.lt h; have := k3 k h'; omega)
    have Q3 := Lib.hid (Q2.out.chg (Chg.of_below (fun _ => False) b3) fun _ _ => id)
    have P3 := Lib.hid q3
    clear b3 q3 k3 HPa hpb Q2 B2
    go_wp2_with fail
    refine (lenF P3.out).mono ?_
    rintro e w' ⟨rfl, rfl⟩
    go_wp2_with fail
    refine (lenF Q3.out).mono ?_
    rintro e w' ⟨rfl, rfl⟩
    go_wp2_with fail
    refine (widthF P3.out).mono ?_
    rintro e w' ⟨rfl, rfl⟩
    go_wp2_with fail
    refine (widthF Q3.out).mono ?_
    rintro e w' ⟨rfl, rfl⟩
    have Y1 := Lib.hid (bytesF P3.out)
    have Y2 := Lib.hid (bytesF Q3.out)
    obtain ⟨bo, hbo⟩ : ∃ bo, bo = decide (n ∉ L) := ⟨_, rfl⟩
    have hbb : (bo == bo) = true := by simp
    have HA := Lib.hid (addF P3.out n HNn.out (by omega))
    rw [← hbo] at HA
    generalize strOf (intsBytes L W) = st at *
    go_wp2_with fail
    refine Y1.out.mono ?_
    rintro e w' ⟨rfl, rfl⟩
    go_wp2_with fail
    refine Y2.out.mono ?_
    rintro e w' ⟨rfl, rfl⟩
    go_wp2_with fail
    refine HA.out.mono ?_
    rintro e w4 ⟨rfl, F4', p4, k4, c4⟩
    have Q4 := Lib.hid (Q3.out.chg c4 HD.out)
    have P4 := Lib.hid p4
    have B4 := Lib.hid (belowChg B3.out c4 B3.out.size fun k hk _ => KF'.out k hk)
    have HD4 := Lib.hid (show ∀ k, F4' k → ¬ F k from fun k h h' => (k4 k h).elim (HD.out k h') fun h2 => by have := Q3.out.lt h'; omega)
    have KF4' := Lib.hid (show ∀ k, F4' k → w.heap.size ≤ k from fun k hk => (k4 k hk).elim (KF'.out k) fun h => Nat.le_trans B3.out.size h)
    have HA2 := Lib.hid (addF Q4.out n HNn.out (by omega))
    rw [← hbo] at HA2
    clear hbo
    clear c4 p4 k4 Q3 P3 Y1 Y2 HA B3
    go_wp2_with fail
    refine HA2.out.mono ?_
    rintro e w5 ⟨rfl, F5, q5, k5, c5⟩
    have Q5 := Lib.hid q5
    have P5 := Lib.hid (P4.out.chg c5 HD4.out)
    have B5 := Lib.hid (belowChg B4.out c5 B4.out.size fun k hk _ => KF.out k hk)
    clear c5 q5 k5 Q4 P4 HA2 B4
    have hM := Q5.out.width
    generalize max W (wantsN n) = M at *
    generalize ins L n = G at *
    have Y1 := Lib.hid (bytesF P5.out)
    have Y2 := Lib.hid (bytesF Q5.out)
    have hsz := intsBytes_length G M
    rw [← strOf_size] at hsz
    have hGM : G.length * M ≤ G.length * 8 := Nat.mul_le_mul_left _ (by omega)
    have hmul : (G.length : Int) * (M : Int) = ((G.length * M : Nat) : Int) := by rw [Int.natCast_mul]
    have hlast : (((strOf (intsBytes G M)).size : Int) == 8 + ((G.length * M : Nat) : Int)) = true := by simp only [beq_iff_eq]; omega
    have hin : ((G.length * M : Nat) : Int) ≤ 3208 := by omega
    have hin0 : 0 ≤ ((G.length * M : Nat) : Int) := by omega
    rw [← hmul] at hlast hin hin0
    generalize strOf (intsBytes G M) = st at *
    clear hmul hGM hsz hbl hLW
    go_wp2_with fail
    refine Y1.out.mono ?_
    rintro e w' ⟨rfl, rfl⟩
    go_wp2_with fail
    refine Y2.out.mono ?_
    rintro e w' ⟨rfl, rfl⟩
    go_wp2_with fail
    refine Y2.out.mono ?_
    rintro e w' ⟨rfl, rfl⟩
    go_wp2_with fail
    refine (lenF Q5.out).mono ?_
    rintro e w' ⟨rfl, rfl⟩
    go_wp2_with fail
    refine (widthF Q5.out).mono ?_
    rintro e w' ⟨rfl, rfl⟩
    go_wp2_with fail
    go_ret
    exact ⟨rfl, B5.out⟩
end Go.Proofs.Ytncdckakcmoejaa
