/- The law PackApart: the walk. -/
import Derived.Test.YtcoepekoacpgnaaDoorPckA
namespace Go.Proofs.YtcoepekoacpgnaaDoor
set_option linter.unusedVariables false
set_option linter.unusedSimpArgs false
open Go.RowKit
theorem extract_list (s : ByteArray) (n : Nat) : (s.extract 0 n).toList = s.data.toList.take n := by
  rw [ByteArray.toList_eq, ByteArray.data_extract]
  simp
theorem apart_eq {L M : List ByteArray} (hL : ∀ s ∈ L, s.size ≤ 65536) (hM : ∀ s ∈ M, s.size ≤ 65536) (tL : totalT L ≤ 1048576) (tM : totalT M ≤ 1048576) {n : Nat} (hn : n = min (sizeP L) (sizeP M)) :
    (((strOf (packL L)).extract 0 n).toList == ((strOf (packL M)).extract 0 n).toList) = decide (L = M) := by
  have o1 := okl_of hL tL
  have o2 := okl_of hM tM
  have z1 := o1.size
  have z2 := o2.size
  have m1 := o1.many
  have m2 := o2.many
  rw [extract_list, extract_list, strOf_data, strOf_data, Bool.eq_iff_iff, beq_iff_eq, decide_eq_true_iff]
  refine ⟨fun h => ?_, fun h => by rw [h]⟩
  exact pack_inj (fun s hs => by have := hL s hs; omega) (fun s hs => by have := hM s hs; omega) (by omega) (by omega) (pack_prefix hn (by omega) (by omega) h)
set_option maxHeartbeats 3200000 in
set_option maxRecDepth 100000 in
theorem packApart_walk {w : World} (hl : Laid w) (a : Option Addr) (n ca : Nat) (zs : List ByteArray) (b : Option Addr) (m cb : Nat) (ys : List ByteArray) (ha : zs.length = n ∧ ArgRow w a n ca fun i => .string (zs.getD i ByteArray.empty)) (ta : totalT zs ≤ 1048576)
    (hb : ys.length = m ∧ ArgRow w b m cb fun i => .string (ys.getD i ByteArray.empty)) (tb : totalT ys ≤ 1048576) :
    Calls Tryd.prog 3 #[.slice a n ca, .slice b m cb] w fun e w' => e = .returned (.bool true) ∧ Below w.heap.size w w' := by
  have HAl := Lib.hid (fun w' (hb : Below w.heap.size w w') => alive5_any (hl.below hb))
  have HA := Lib.hid (fun w' (hbe : Below w.heap.size w w') => show ArgRow w' a n ca fun i => .string (zs.getD i ByteArray.empty) from ha.2.belowT hbe)
  have HB := Lib.hid (fun w' (hbe : Below w.heap.size w w') => show ArgRow w' b m cb fun i => .string (ys.getD i ByteArray.empty) from hb.2.belowT hbe)
  have HM1 := Lib.hid (fun w' (hbe : Below w.heap.size w w') => may_any w' a n ca zs ha.1 (HA.out w' hbe) ta)
  have HM2 := Lib.hid (fun w' (hbe : Below w.heap.size w w') => may_any w' b m cb ys hb.1 (HB.out w' hbe) tb)
  have HF1 := Lib.hid (fun w' (hbe : Below w.heap.size w w') => filled_any (hl.below hbe) a n ca zs ha.1 (HA.out w' hbe) ta)
  have HF2 := Lib.hid (fun w' (hbe : Below w.heap.size w w') => filled_any (hl.below hbe) b m cb ys hb.1 (HB.out w' hbe) tb)
  have hn1 : n ≤ 1048576 := by have := ha.1; unfold totalT at ta; omega
  have hm1 : m ≤ 1048576 := by have := hb.1; unfold totalT at tb; omega
  have hac := ha.2.1
  have hbc := hb.2.1
  have HS := Lib.hid (fun w' (hbe : Below w.heap.size w w') => sameTexts_any w' a b n m ca cb zs ys ha.1 hb.1 (HA.out w' hbe) (HB.out w' hbe) (by omega))
  have HTot := Lib.hid (And.intro ta tb)
  clear ha hb ta tb hl
  by_cases h1 : n ≤ 1000
  · have d1 : decide (n ≤ 1000) = true := decide_eq_true h1
    rw [d1] at HM1
    by_cases h2 : m ≤ 1000
    · have d2 : decide (m ≤ 1000) = true := decide_eq_true h2
      rw [d2] at HM2
      cases f1 : fitsT zs with
      | true =>
        rw [f1] at HF1
        cases f2 : fitsT ys with
        | true =>
          rw [f2] at HF2
          have HEq := Lib.hid (fun k hk => apart_eq (of_decide_eq_true f1) (of_decide_eq_true f2) HTot.out.1 HTot.out.2 (n := k) hk)
          have HSz := Lib.hid (And.intro (okl_of (of_decide_eq_true f1) HTot.out.1).size (okl_of (of_decide_eq_true f2) HTot.out.2).size)
          clear f1 f2
          go_enter Tryd.func3, Tryd.ntmps3
          go_wp2_with fail
          refine (HAl.out _ (Below.refl _ _)).mono ?_
          rintro e w1 ⟨rfl, b1⟩
          have B1 := Lib.hid b1
          clear b1
          go_wp2_with fail
          refine (HM1.out _ B1.out).mono ?_
          rintro e w2 ⟨rfl, b2⟩
          have B2 := Lib.hid (B1.out.trans (b2.mono B1.out.size))
          clear b2
          go_wp2_with fail
          refine (HM2.out _ B2.out).mono ?_
          rintro e w3 ⟨rfl, b3⟩
          have B3 := Lib.hid (B2.out.trans (b3.mono B2.out.size))
          clear b3
          go_wp2_with fail
          refine (HF1.out _ B3.out).mono ?_
          rintro e w4 ⟨⟨p, rfl, hp⟩, b4⟩
          have B4 := Lib.hid (B3.out.trans (b4.mono B3.out.size))
          have HP := Lib.hid (hp trivial)
          clear b4 hp
          go_wp2_with fail
          refine (HF2.out _ B4.out).mono ?_
          rintro e w5 ⟨⟨q, rfl, hq⟩, b5⟩
          have B5 := Lib.hid (B4.out.trans (b5.mono B4.out.size))
          obtain ⟨F, hP, hF⟩ := HP.out
          obtain ⟨G, hQ, hG⟩ := hq trivial
          have HBp := Lib.hid (packBytes (hP.below b5))
          have HBq := Lib.hid (packBytes hQ)
          clear b5 hq hP hF hQ hG
          have e1 : (strOf (packL zs)).size = sizeP zs := by rw [strOf_size, packL_length]
          have e2 : (strOf (packL ys)).size = sizeP ys := by rw [strOf_size, packL_length]
          rw [← e1, ← e2] at HSz
          have HEq2 := Lib.hid (HEq.out (min (strOf (packL zs)).size (strOf (packL ys)).size) (by rw [e1, e2]))
          clear e1 e2 HEq
          generalize strOf (packL zs) = A at *
          generalize strOf (packL ys) = B at *
          obtain ⟨k, hk⟩ : ∃ k, min A.size B.size = k := ⟨_, rfl⟩
          rw [hk] at HEq2
          have hmin : min (A.size : Int) (B.size : Int) = (k : Int) := by omega
          have hkA : k ≤ A.size := by omega
          have hkB : k ≤ B.size := by omega
          have hzA := HSz.out.1
          have hzB := HSz.out.2
          clear hk
          have heq2 := HEq2.out
          have HSa := Lib.hid (HS.out (w5.drewN 1) (belowN B5.out 1))
          obtain ⟨r, hr⟩ : ∃ r, decide (zs = ys) = r := ⟨_, rfl⟩
          rw [hr] at heq2 HSa
          clear hr HEq2
          have HC : Hid ((fun _ : World => True) w5.drew) := Lib.hid trivial
          go_wp2_with fail
          refine HBp.out.mono ?_
          rintro e w' ⟨rfl, rfl⟩
          go_wp2_with fail
          refine HBq.out.mono ?_
          rintro e w' ⟨rfl, rfl⟩
          go_wp2_with fail
          refine wp_region_text ⟨[9], [0, 1, 2, 3, 4, 5, 6, 10, 11], 9⟩ (fun _ => True) (by kernel_rfl) (by kernel_rfl) trivial ?_
          refine wpC_seg true (True.intro) 7 0 _ _ (by rfl) (by rfl) ?_
          simp only [List.take_succ_cons, List.take_zero, List.drop_succ_cons, List.drop_zero, if_true, Nat.zero_add, Nat.reduceAdd]
          repeat (go_big_quiet_step (fail))
          refine wpQuiet_nil ?_
          refine wpC_seg false (True.intro) 2 7 _ _ (by rfl) (by rfl) ?_
          simp only [List.take_succ_cons, List.take_zero, List.drop_succ_cons, List.drop_zero, Bool.false_eq_true, if_false, Nat.zero_add, Nat.reduceAdd]
          repeat (go_big_quiet_step (fail))
          refine wpQuiet_nil ?_
          refine wpC_loud (by rfl) (by rfl) fun K hK => ?_
          go_wp2_with fail
          refine HSa.out.mono ?_
          rintro e w' ⟨rfl, j, rfl⟩
          refine hK _ _ (fun h => absurd h (by decide)) ?_
          clear hK
          refine wpC_segD 2 10 _ _ (by rfl) (by rfl) ?_
          simp only [List.take_succ_cons, List.take_zero, List.drop_succ_cons, List.drop_zero, if_true, Nat.zero_add, Nat.reduceAdd]
          repeat (go_big_quiet_step (fail))
          refine wpQuiet_nil ?_
          refine wpC_nil ?_
          go_wp2_with fail
          go_ret
          exact ⟨by simp, belowN (belowN B5.out 1) j⟩
        | false =>
          rw [f2] at HF2
          go_enter Tryd.func3, Tryd.ntmps3
          go_wp2_with fail
          refine (HAl.out _ (Below.refl _ _)).mono ?_
          rintro e w1 ⟨rfl, b1⟩
          have B1 := Lib.hid b1
          clear b1
          go_wp2_with fail
          refine (HM1.out _ B1.out).mono ?_
          rintro e w2 ⟨rfl, b2⟩
          have B2 := Lib.hid (B1.out.trans (b2.mono B1.out.size))
          clear b2
          go_wp2_with fail
          refine (HM2.out _ B2.out).mono ?_
          rintro e w3 ⟨rfl, b3⟩
          have B3 := Lib.hid (B2.out.trans (b3.mono B2.out.size))
          clear b3
          go_wp2_with fail
          refine (HF1.out _ B3.out).mono ?_
          rintro e w4 ⟨⟨p, rfl, hp⟩, b4⟩
          have B4 := Lib.hid (B3.out.trans (b4.mono B3.out.size))
          clear b4 hp
          go_wp2_with fail
          refine (HF2.out _ B4.out).mono ?_
          rintro e w5 ⟨⟨q, rfl, hq⟩, b5⟩
          have B5 := Lib.hid (B4.out.trans (b5.mono B4.out.size))
          clear b5 hq
          go_wp2_with fail
          go_ret
          exact ⟨rfl, B5.out⟩
      | false =>
        rw [f1] at HF1
        cases f2 : fitsT ys
        all_goals
          rw [f2] at HF2
          go_enter Tryd.func3, Tryd.ntmps3
          go_wp2_with fail
          refine (HAl.out _ (Below.refl _ _)).mono ?_
          rintro e w1 ⟨rfl, b1⟩
          have B1 := Lib.hid b1
          clear b1
          go_wp2_with fail
          refine (HM1.out _ B1.out).mono ?_
          rintro e w2 ⟨rfl, b2⟩
          have B2 := Lib.hid (B1.out.trans (b2.mono B1.out.size))
          clear b2
          go_wp2_with fail
          refine (HM2.out _ B2.out).mono ?_
          rintro e w3 ⟨rfl, b3⟩
          have B3 := Lib.hid (B2.out.trans (b3.mono B2.out.size))
          clear b3
          go_wp2_with fail
          refine (HF1.out _ B3.out).mono ?_
          rintro e w4 ⟨⟨p, rfl, hp⟩, b4⟩
          have B4 := Lib.hid (B3.out.trans (b4.mono B3.out.size))
          clear b4 hp
          go_wp2_with fail
          refine (HF2.out _ B4.out).mono ?_
          rintro e w5 ⟨⟨q, rfl, hq⟩, b5⟩
          have B5 := Lib.hid (B4.out.trans (b5.mono B4.out.size))
          clear b5 hq
          go_wp2_with fail
          go_ret
          exact ⟨rfl, B5.out⟩
    · have d2 : decide (m ≤ 1000) = false := decide_eq_false h2
      rw [d2] at HM2
      go_enter Tryd.func3, Tryd.ntmps3
      go_wp2_with fail
      refine (HAl.out _ (Below.refl _ _)).mono ?_
      rintro e w1 ⟨rfl, b1⟩
      have B1 := Lib.hid b1
      clear b1
      go_wp2_with fail
      refine (HM1.out _ B1.out).mono ?_
      rintro e w2 ⟨rfl, b2⟩
      have B2 := Lib.hid (B1.out.trans (b2.mono B1.out.size))
      clear b2
      go_wp2_with fail
      refine (HM2.out _ B2.out).mono ?_
      rintro e w3 ⟨rfl, b3⟩
      have B3 := Lib.hid (B2.out.trans (b3.mono B2.out.size))
      clear b3
      go_wp2_with fail
      refine (HAl.out _ B3.out).mono ?_
      rintro e wz ⟨rfl, bz⟩
      have BZ := Lib.hid (B3.out.trans (bz.mono B3.out.size))
      clear bz
      go_wp2_with fail
      go_ret
      exact ⟨rfl, BZ.out⟩
  · have d1 : decide (n ≤ 1000) = false := decide_eq_false h1
    rw [d1] at HM1
    go_enter Tryd.func3, Tryd.ntmps3
    go_wp2_with fail
    refine (HAl.out _ (Below.refl _ _)).mono ?_
    rintro e w1 ⟨rfl, b1⟩
    have B1 := Lib.hid b1
    clear b1
    go_wp2_with fail
    refine (HM1.out _ B1.out).mono ?_
    rintro e w2 ⟨rfl, b2⟩
    have B2 := Lib.hid (B1.out.trans (b2.mono B1.out.size))
    clear b2
    go_wp2_with fail
    refine (HAl.out _ B2.out).mono ?_
    rintro e wz ⟨rfl, bz⟩
    have BZ := Lib.hid (B2.out.trans (bz.mono B2.out.size))
    clear bz
    go_wp2_with fail
    go_ret
    exact ⟨rfl, BZ.out⟩
end Go.Proofs.YtcoepekoacpgnaaDoor
