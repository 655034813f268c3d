/- The law PackBack: the walk. -/
import Derived.Test.YtcoepekoacpgnaaDoorPckP
namespace Go.Proofs.YtcoepekoacpgnaaDoor
set_option linter.unusedVariables false
set_option linter.unusedSimpArgs false
open Go.RowKit
theorem getV_at {L : List ByteArray} {i : Nat} (h : i < L.length) : getV L i = .tuple #[.string L[i], .bool true] := by
  have hp : placeN L.length i = i := by unfold placeN; rw [if_neg (by omega)]
  have hb : placeB L.length i = true := by unfold placeB; rw [hp]; simp; omega
  unfold getV
  rw [hb, hp, Int.toNat_natCast]
  simp [List.getD, h]
theorem getV_back {L : List ByteArray} {i : Nat} (h : i < L.length) : getV L ((i : Int) - L.length) = .tuple #[.string L[i], .bool true] := by
  have hp : placeN L.length ((i : Int) - L.length) = i := by unfold placeN; rw [if_pos (by omega)]; omega
  have hb : placeB L.length ((i : Int) - L.length) = true := by unfold placeB; rw [hp]; simp; omega
  unfold getV
  rw [hb, hp, Int.toNat_natCast]
  simp [List.getD, h]
theorem getV_far (L : List ByteArray) : getV L L.length = .tuple #[.string ByteArray.empty, .bool false] := by
  have hp : placeN L.length L.length = L.length := by unfold placeN; rw [if_neg (by omega)]
  have hb : placeB L.length L.length = false := by unfold placeB; rw [hp]; simp
  unfold getV
  rw [hb]; rfl
theorem getV_far2 (L : List ByteArray) : getV L (-1 - L.length) = .tuple #[.string ByteArray.empty, .bool false] := by
  have hp : placeN L.length (-1 - L.length) = -1 := by unfold placeN; rw [if_pos (by omega)]; omega
  have hb : placeB L.length (-1 - L.length) = false := by unfold placeB; rw [hp]; simp
  unfold getV
  rw [hb]; rfl
set_option maxHeartbeats 6400000 in
set_option maxRecDepth 100000 in
theorem packBack_walk {w : World} (hl : Laid w) (a : Option Addr) (n ca : Nat) (zs : List ByteArray) (ha : zs.length = n ∧ ArgRow w a n ca fun i => .string (zs.getD i ByteArray.empty)) (ta : totalT zs ≤ 1048576) :
    Calls Tryd.prog 5 #[.slice a n ca] w fun e w' => e = .returned (.bool true) ∧ Below w.heap.size w w' := by
  have HAl := Lib.hid (fun w' (hb : Below w.heap.size w w') => alive5_any (hl.below hb))
  have HA := Lib.hid (fun w' (hbe : Below w.heap.size w w') => show ArgRow w' a n ca fun i => .string (zs.getD i ByteArray.empty) from ha.2.belowT hbe)
  have HM1 := Lib.hid (fun w' (hbe : Below w.heap.size w w') => may_any w' a n ca zs ha.1 (HA.out w' hbe) ta)
  have HF1 := Lib.hid (fun w' (hbe : Below w.heap.size w w') => filled_any (hl.below hbe) a n ca zs ha.1 (HA.out w' hbe) ta)
  have HLd := Lib.hid (fun w' (hbe : Below w.heap.size w w') => hl.below hbe)
  have hn1 : n ≤ 1048576 := by have := ha.1; unfold totalT at ta; omega
  have hac := ha.2.1
  have HLn := Lib.hid ha.1
  clear ha ta hl
  by_cases h1 : n ≤ 1000
  · have d1 : decide (n ≤ 1000) = true := decide_eq_true h1
    rw [d1] at HM1
    go_enter Tryd.func5, Tryd.ntmps5
    go_wp2_with fail
    refine (HAl.out _ (Below.refl _ _)).mono ?_
    rintro e w1 ⟨rfl, b1⟩
    have B1 := Lib.hid b1
    clear b1
    go_wp2_with fail
    refine (HM1.out _ B1.out).mono ?_
    rintro e w2 ⟨rfl, b2⟩
    have B2 := Lib.hid (B1.out.trans (b2.mono B1.out.size))
    clear b2
    go_wp2_with fail
    refine (HF1.out _ B2.out).mono ?_
    rintro e w4 ⟨⟨p, rfl, hp⟩, b4⟩
    have B4 := Lib.hid (B2.out.trans (b4.mono B2.out.size))
    clear b4
    cases f1 : fitsT zs with
    | false =>
      rw [f1] at hp
      clear hp
      go_wp2_with fail
      go_ret
      exact ⟨rfl, B4.out⟩
    | true =>
      obtain ⟨F, hP, hF⟩ := hp f1
      have HP := Lib.hid (fun w' (hb : Below w4.heap.size w4 w') => hP.below hb)
      obtain ⟨S, hS⟩ : ∃ S, strOf (packL zs) = S := ⟨_, rfl⟩
      have HBb := Lib.hid (packBytes hP)
      rw [hS] at HBb
      have HPa := Lib.hid (parse_pack (HLd.out _ B4.out) zs hP.ok S hS.symm)
      have hSz : S.size = sizeP zs := by rw [← hS, strOf_size, packL_length]
      have hSb := hP.ok.size
      rw [← hSz] at hSb
      have HSz := Lib.hid hSz
      have HSe := Lib.hid hS
      clear hp f1 hP hF hS hSz
      go_wp2_with fail
      refine HBb.out.mono ?_
      rintro e w' ⟨rfl, rfl⟩
      go_wp2_with fail
      refine HPa.out.mono ?_
      rintro e w5 ⟨⟨q, G, rfl, hQ, hG⟩, b5⟩
      have B5 := Lib.hid (B4.out.trans (b5.mono B4.out.size))
      have HP5 := Lib.hid (HP.out w5 b5)
      have HB45 := Lib.hid b5
      have HQ := Lib.hid (fun w' (hb : Below w5.heap.size w5 w') => hQ.below hb)
      have L1 := Lib.hid (packLen HP5.out)
      have L2 := Lib.hid (packLen hQ)
      rw [HLn.out] at L1 L2
      have Y1 := Lib.hid (packBytes HP5.out)
      have Y2 := Lib.hid (packBytes hQ)
      rw [HSe.out] at Y1 Y2
      have Z1 := Lib.hid (packSize HP5.out)
      rw [← HSz.out] at Z1
      clear hQ hG b5 HPa HBb
      go_wp2_with fail
      refine L1.out.mono ?_
      rintro e w' ⟨rfl, rfl⟩
      go_wp2_with fail
      refine L2.out.mono ?_
      rintro e w' ⟨rfl, rfl⟩
      go_wp2_with fail
      refine Y2.out.mono ?_
      rintro e w' ⟨rfl, rfl⟩
      go_wp2_with fail
      refine Y1.out.mono ?_
      rintro e w' ⟨rfl, rfl⟩
      go_wp2_with fail
      refine Z1.out.mono ?_
      rintro e w' ⟨rfl, rfl⟩
      go_wp2_with fail
      refine Y1.out.mono ?_
      rintro e w' ⟨rfl, rfl⟩
      go_wp2_with fail
      clear L1 L2 Y1 Y2 Z1
      go_loopw [7] (fun i wr => ∃ k : Nat, k ≤ n ∧ i = .int .i64 k ∧ Hid (Below w5.heap.size w5 wr)) (fun i _ => n - (intOf i).toNat)
      case atStart => exact ⟨0, Nat.zero_le _, rfl, Lib.hid (Below.refl _ _)⟩
      case round =>
        obtain ⟨k, hk, rfl, hB⟩ := hrel
        have HBw := Lib.hid (B5.out.trans (hB.out.mono B5.out.size))
        by_cases hlt : k < n
        · have hkl : k < zs.length := by rw [HLn.out]; exact hlt
          have G1 := Lib.hid (packGet (HP.out wr (HB45.out.trans (hB.out.mono HB45.out.size))) (HLd.out _ HBw.out) (k : Int) (by omega))
          rw [getV_at hkl] at G1
          have G2 := Lib.hid (fun w' (hb : Below wr.heap.size wr w') => packGet (HQ.out w' (hB.out.trans (hb.mono hB.out.size))) (HLd.out _ (HBw.out.trans (hb.mono HBw.out.size))) ((k : Int) - (zs.length : Int)) (by have := HLn.out; omega))
          rw [getV_back hkl, HLn.out] at G2
          have HAk := Lib.hid (fun w' (hb : Below wr.heap.size wr w') => (HA.out _ (HBw.out.trans (hb.mono HBw.out.size))).2.resolve_left (by omega))
          obtain ⟨b, o, hab, _⟩ := HAk.out wr (Below.refl _ _)
          subst hab
          have hcl := fun w' (hb : Below wr.heap.size wr w') => show w'.cell? ⟨b, o + k, none⟩ = some (.string zs[k]) from by
            obtain ⟨b', o', e, hc⟩ := HAk.out w' hb
            cases e
            have := hc k hlt
            simp only [List.getD, List.getElem?_eq_getElem hkl, Option.getD_some] at this
            exact this
          have HCl := Lib.hid hcl
          clear hcl HAk
          generalize zs[k] = x at *
          go_wp2_with fail
          refine G1.out.mono ?_
          rintro e w6 ⟨rfl, b6⟩
          have B6 := Lib.hid b6
          clear b6
          go_wp2_with fail
          refine (G2.out _ B6.out).mono ?_
          rintro e w7 ⟨rfl, b7⟩
          have B7 := Lib.hid (B6.out.trans (b7.mono B6.out.size))
          have hcell := HCl.out w7 B7.out
          clear b7
          go_wp2_with fail
          go_roundw
          case rel => exact ⟨k + 1, by omega, by go_num, Lib.hid (hB.out.trans (B7.out.mono hB.out.size))⟩
          case measure => simp [intOf]; omega
        · obtain rfl : k = n := by omega
          have G1 := Lib.hid (packGet (HP.out wr (HB45.out.trans (hB.out.mono HB45.out.size))) (HLd.out _ HBw.out) (zs.length : Int) (by have := HLn.out; omega))
          rw [getV_far, HLn.out] at G1
          have G2 := Lib.hid (fun w' (hb : Below wr.heap.size wr w') => packGet (HP.out w' ((HB45.out.trans (hB.out.mono HB45.out.size)).trans (hb.mono (Nat.le_trans HB45.out.size hB.out.size)))) (HLd.out _ (HBw.out.trans (hb.mono HBw.out.size))) (-1 - (zs.length : Int)) (by have := HLn.out; omega))
          rw [getV_far2, HLn.out] at G2
          go_wp2_with fail
          refine G1.out.mono ?_
          rintro e w6 ⟨rfl, b6⟩
          have B6 := Lib.hid b6
          clear b6
          go_wp2_with fail
          refine (G2.out _ B6.out).mono ?_
          rintro e w7 ⟨rfl, b7⟩
          have B7 := Lib.hid (B6.out.trans (b7.mono B6.out.size))
          clear b7
          go_wp2_with fail
          go_ret
          exact ⟨rfl, HBw.out.trans (B7.out.mono HBw.out.size)⟩
  · have d1 : decide (n ≤ 1000) = false := decide_eq_false h1
    rw [d1] at HM1
    go_enter Tryd.func5, Tryd.ntmps5
    go_wp2_with fail
    refine (HAl.out _ (Below.refl _ _)).mono ?_
    rintro e w1 ⟨rfl, b1⟩
    have B1 := Lib.hid b1
    clear b1
    go_wp2_with fail
    refine (HM1.out _ B1.out).mono ?_
    rintro e w2 ⟨rfl, b2⟩
    have B2 := Lib.hid (B1.out.trans (b2.mono B1.out.size))
    clear b2
    go_wp2_with fail
    refine (HAl.out _ B2.out).mono ?_
    rintro e w3 ⟨rfl, b3⟩
    have B3 := Lib.hid (B2.out.trans (b3.mono B2.out.size))
    clear b3
    go_wp2_with fail
    go_ret
    exact ⟨rfl, B3.out⟩
end Go.Proofs.YtcoepekoacpgnaaDoor
