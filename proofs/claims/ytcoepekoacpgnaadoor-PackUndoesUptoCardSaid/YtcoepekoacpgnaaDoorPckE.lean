/- The law PackUndoes: the walk. -/
import Derived.Test.YtcoepekoacpgnaaDoorPckA
namespace Go.Proofs.YtcoepekoacpgnaaDoor
set_option linter.unusedVariables false
set_option linter.unusedSimpArgs false
open Go.RowKit
theorem insP_ok {L : List ByteArray} (h : OKL L) (ht : totalT L ≤ 1048576) (hm : L.length ≤ 1001) {k : Nat} (hk : k ≤ L.length) {s : ByteArray} (hs : s.size ≤ 65536) : insP L k s = (0, L.take k ++ [s] ++ L.drop k) := by
  have h1 := body_le L h.each
  have h2 := entL_length s (by omega)
  unfold insP
  rw [if_neg (by omega), if_neg (by omega), if_neg (by unfold sizeP; omega), Int.toNat_natCast]
theorem insP_no {L : List ByteArray} {k : Nat} (hk : k ≤ L.length) {s : ByteArray} (hs : 65536 < s.size) : insP L k s = (3, L) := by
  unfold insP
  rw [if_neg (by omega), if_pos (.inl hs)]
theorem ins_get {L : List ByteArray} {k : Nat} (hk : k ≤ L.length) (s : ByteArray) : getV (L.take k ++ [s] ++ L.drop k) k = .tuple #[.string s, .bool true] := by
  have hl : (L.take k ++ [s] ++ L.drop k).length = L.length + 1 := by simp; omega
  have hb : placeB (L.take k ++ [s] ++ L.drop k).length k = true := by
    unfold placeB placeN
    rw [hl, if_neg (by omega)]
    simp; omega
  have hp : placeN (L.take k ++ [s] ++ L.drop k).length k = k := by unfold placeN; rw [if_neg (by omega)]
  unfold getV
  rw [hb, hp, Int.toNat_natCast]
  have : (L.take k ++ [s] ++ L.drop k).getD k ByteArray.empty = s := by
    have hk' : (L.take k).length = k := by rw [List.length_take]; omega
    rw [List.append_assoc]
    simp only [List.getD]
    rw [List.getElem?_append_right (by omega), hk', Nat.sub_self]
    rfl
  rw [this]; rfl
theorem ins_del {L : List ByteArray} {k : Nat} (hk : k ≤ L.length) (s : ByteArray) : delP (L.take k ++ [s] ++ L.drop k) k 1 = (0, L) := by
  have hl : (L.take k ++ [s] ++ L.drop k).length = L.length + 1 := by simp; omega
  have hk' : (L.take k).length = k := by rw [List.length_take]; omega
  unfold delP
  rw [hl, if_neg (by omega), Int.toNat_natCast, show ((1 : Int).toNat) = 1 from rfl]
  congr 1
  rw [List.append_assoc, List.take_left' hk', show k + 1 = (L.take k ++ [s]).length by simp [hk'], ← List.append_assoc, List.drop_left, List.take_append_drop]
theorem setP_ok {L : List ByteArray} (hz : sizeP L ≤ 100000000) {k : Nat} (hk : k < L.length) {s : ByteArray} (hs : s.size ≤ 65536) : setP L k s = (0, L.take k ++ [s] ++ L.drop (k + 1)) := by
  have hp : placeN L.length k = k := by unfold placeN; rw [if_neg (by omega)]
  have hb : placeB L.length k = true := by unfold placeB; rw [hp]; simp; omega
  have h2 := entL_length s (by omega)
  unfold setP
  rw [hb, hp, Int.toNat_natCast, if_neg (by simp), if_neg (by omega), if_neg (by omega)]
theorem set_back {L : List ByteArray} {k : Nat} (hk : k < L.length) (s : ByteArray) : (L.take k ++ [s] ++ L.drop (k + 1)).take k ++ [L[k]] ++ (L.take k ++ [s] ++ L.drop (k + 1)).drop (k + 1) = L := by
  have hk' : (L.take k).length = k := by rw [List.length_take]; omega
  rw [List.append_assoc (L.take k), List.take_left' hk', show k + 1 = (L.take k ++ [s]).length by simp [hk'], ← List.append_assoc, List.drop_left, List.length_append, hk', List.length_singleton]
  rw [← take_succ_get hk, List.take_append_drop]
set_option maxHeartbeats 6400000 in
set_option maxRecDepth 100000 in
theorem packUndoes_walk {w : World} (hl : Laid w) (a : Option Addr) (n ca : Nat) (zs : List ByteArray) (at0 : Int) (s : ByteArray) (ha : zs.length = n ∧ ArgRow w a n ca fun i => .string (zs.getD i ByteArray.empty)) (ta : totalT zs ≤ 1048576)
    (hat : (Lit.int .u16 at0).wf = true) (hs : s.size ≤ 1048576) :
    Calls Tryd.prog 7 #[.slice a n ca, .int .u16 at0, .string s] w fun e w' => e = .returned (.bool true) ∧ Below w.heap.size w w' := by
  obtain ⟨av, rfl, hav⟩ : ∃ m : Nat, at0 = m ∧ m < 65536 := by
    have hx : 0 ≤ at0 ∧ at0 ≤ 65535 := by simpa [Lit.wf, IntKind.min, IntKind.max, IntKind.signed, IntKind.bits] using hat
    exact ⟨at0.toNat, by omega, by omega⟩
  clear hat
  have HAl := Lib.hid (fun w' (hb : Below w.heap.size w w') => alive5_any (hl.below hb))
  have HA := Lib.hid (fun w' (hbe : Below w.heap.size w w') => show ArgRow w' a n ca fun i => .string (zs.getD i ByteArray.empty) from ha.2.belowT hbe)
  have HM1 := Lib.hid (fun w' (hbe : Below w.heap.size w w') => may_any w' a n ca zs ha.1 (HA.out w' hbe) ta)
  have HF1 := Lib.hid (fun w' (hbe : Below w.heap.size w w') => filled_any (hl.below hbe) a n ca zs ha.1 (HA.out w' hbe) ta)
  have HLd := Lib.hid (fun w' (hbe : Below w.heap.size w w') => hl.below hbe)
  have hn1 : n ≤ 1048576 := by have := ha.1; unfold totalT at ta; omega
  have hac := ha.2.1
  have HLn := Lib.hid ha.1
  have HTot := Lib.hid ta
  have HBy := Lib.hid (fun (w' : World) => beyond_any (w'.alloc (.cells #[.int .i64 s.size] 3)) (some ⟨w'.heap.size, 0, none⟩) 1 1 [s.size] rfl ⟨Nat.le_refl _, .inr ⟨w'.heap.size, 0, rfl, fun i hi => by
      obtain rfl : i = 0 := by omega
      exact cell_in (heap_new _ _) rfl⟩⟩ (by simp; omega) (by omega))
  rw [show decide (1048576 < [s.size].sum) = false from decide_eq_false (by simp; exact hs)] at HBy
  obtain ⟨k, hk⟩ : ∃ k, av % (n + 1) = k := ⟨_, rfl⟩
  have hkn : k ≤ n := by rw [← hk]; have := Nat.mod_lt av (show 0 < n + 1 by omega); omega
  have hmod : (av : Int) % ((n : Int) + 1) = (k : Int) := by rw [← hk]; rfl
  clear ha ta hl hk
  by_cases h1 : n ≤ 1000
  · have d1 : decide (n ≤ 1000) = true := decide_eq_true h1
    rw [d1] at HM1
    go_enter Tryd.func7, Tryd.ntmps7
    go_wp2_with fail
    refine (HAl.out _ (Below.refl _ _)).mono ?_
    rintro e w1 ⟨rfl, b1⟩
    have B1 := Lib.hid b1
    clear b1
    go_wp2_with fail
    refine (HM1.out _ B1.out).mono ?_
    rintro e w2 ⟨rfl, b2⟩
    have B2 := Lib.hid (B1.out.trans (b2.mono B1.out.size))
    clear b2
    go_wp2_with fail
    refine (HBy.out w2).mono ?_
    rintro e w' ⟨rfl, rfl⟩
    have B3 := Lib.hid (B2.out.alloc B2.out.size (.cells #[.int .i64 s.size] 3))
    obtain ⟨w3, hw3⟩ : ∃ w3, w2.alloc (.cells #[.int .i64 s.size] 3) = w3 := ⟨_, rfl⟩
    rw [hw3] at B3 ⊢
    clear hw3
    go_wp2_with fail
    refine (HF1.out _ B3.out).mono ?_
    rintro e w4 ⟨⟨p, rfl, hp⟩, b4⟩
    have B4 := Lib.hid (B3.out.trans (b4.mono B3.out.size))
    have HB34 := Lib.hid B3.out.size
    clear b4
    cases f1 : fitsT zs with
    | false =>
      rw [f1] at hp
      clear hp
      go_wp2_with fail
      go_ret
      exact ⟨rfl, B4.out⟩
    | true =>
      obtain ⟨F, hP, hF⟩ := hp f1
      have hok := hP.ok
      have HP := Lib.hid hP
      have KF := Lib.hid (show ∀ k, F k → w.heap.size ≤ k from fun k hk => Nat.le_trans HB34.out (hF k hk))
      have HBb := Lib.hid (packBytes hP)
      have hkl : k ≤ zs.length := by rw [HLn.out]; exact hkn
      have HI := Lib.hid (packInsert hP (HLd.out _ B4.out) (k : Int) (by omega) s (by omega))
      obtain ⟨A, hA⟩ : ∃ A, strOf (packL zs) = A := ⟨_, rfl⟩
      rw [hA] at HBb
      have HAe := Lib.hid hA
      have HOk := Lib.hid (And.intro hok hkl)
      clear hp f1 hP hF hA hok
      by_cases hs6 : s.size ≤ 65536
      · have hins := insP_ok HOk.out.1 HTot.out (by have := HLn.out; omega) hkl hs6
        rw [hins] at HI
        clear hins
        go_wp2_with fail
        refine HBb.out.mono ?_
        rintro e w' ⟨rfl, rfl⟩
        go_wp2_with fail
        refine HI.out.mono ?_
        rintro e w5 ⟨rfl, ⟨F5, hP5, hF5⟩, c5⟩
        have B5 := Lib.hid (belowChg B4.out c5 B4.out.size fun k hk _ => KF.out k hk)
        have KF5 := Lib.hid (show ∀ k, F5 k → w.heap.size ≤ k from fun k hk => (hF5 k hk).elim (KF.out k) fun h => Nat.le_trans B4.out.size h)
        have HG := Lib.hid (packGet hP5 (HLd.out _ B5.out) (k : Int) (by omega))
        rw [ins_get hkl s] at HG
        have HP5 := Lib.hid hP5
        clear hP5 hF5 c5 HI
        go_wp2_with fail
        refine HG.out.mono ?_
        rintro e w6 ⟨rfl, b6⟩
        have B6 := Lib.hid (B5.out.trans (b6.mono B5.out.size))
        have HP6 := Lib.hid (HP5.out.below b6)
        have HLn6 := Lib.hid (packLen HP6.out)
        rw [show (zs.take k ++ [s] ++ zs.drop k).length = n + 1 by have := HLn.out; simp; omega] at HLn6
        have HD := Lib.hid (packDelete HP6.out (HLd.out _ B6.out) (k : Int) 1 (by omega) (by omega))
        rw [ins_del hkl s] at HD
        clear b6 HG
        go_wp2_with fail
        refine HLn6.out.mono ?_
        rintro e w' ⟨rfl, rfl⟩
        go_wp2_with fail
        refine HD.out.mono ?_
        rintro e w7 ⟨rfl, ⟨F7, hP7, hF7⟩, c7⟩
        have B7 := Lib.hid (belowChg B6.out c7 B6.out.size fun k hk _ => KF5.out k hk)
        have KF7 := Lib.hid (show ∀ k, F7 k → w.heap.size ≤ k from fun k hk => (hF7 k hk).elim (KF5.out k) fun h => Nat.le_trans B6.out.size h)
        have HP7 := Lib.hid hP7
        have HB7 := Lib.hid (packBytes hP7)
        rw [HAe.out] at HB7
        clear hP7 hF7 c7 HD
        go_wp2_with fail
        refine HB7.out.mono ?_
        rintro e w' ⟨rfl, rfl⟩
        by_cases hkk : k = n
        · have hke : ((k : Int) == (n : Int)) = true := by rw [hkk]; exact beq_self_eq_true _
          go_wp2_with fail
          go_ret
          exact ⟨rfl, B7.out⟩
        · have hke : ((k : Int) == (n : Int)) = false := by rw [beq_eq_false_iff_ne]; omega
          have hkl2 : k < zs.length := by have := HLn.out; omega
          have HSz := Lib.hid (show sizeP zs ≤ 100000000 by have := body_le zs HOk.out.1.each; have := HTot.out; unfold sizeP; omega)
          have HS1 := Lib.hid (packSet HP7.out (HLd.out _ B7.out) (k : Int) (by omega) s (by omega))
          rw [setP_ok HSz.out hkl2 hs6] at HS1
          go_wp2_with fail
          refine HS1.out.mono ?_
          rintro e w8 ⟨rfl, ⟨F8, hP8, hF8⟩, c8⟩
          have B8 := Lib.hid (belowChg B7.out c8 B7.out.size fun k hk _ => KF7.out k hk)
          have KF8 := Lib.hid (show ∀ k, F8 k → w.heap.size ≤ k from fun k hk => (hF8 k hk).elim (KF7.out k) fun h => Nat.le_trans B7.out.size h)
          obtain ⟨b, o, hb, hc⟩ := (HA.out _ B8.out).2.resolve_left (by omega)
          subst hb
          have hcell : w8.cell? ⟨b, o + k, none⟩ = some (.string zs[k]) := by
            have := hc k (by omega)
            simp only [List.getD, List.getElem?_eq_getElem hkl2, Option.getD_some] at this
            exact this
          have hsz8 : sizeP (zs.take k ++ [s] ++ zs.drop (k + 1)) ≤ 100000000 := by
            have h1 := sizeP_cut (L := zs) (M := [s]) (show k ≤ k + 1 by omega) (show k + 1 ≤ zs.length by omega)
            have h2 := entL_length s (by omega)
            rw [bodyL_cons, bodyL_nil, List.append_nil] at h1
            have h3 := HSz.out
            have h4 := body_le zs HOk.out.1.each
            have h5 := HTot.out
            have h6 := (offL_lt zs k).2
            have h7 : sizeP zs ≤ 14 * 1048576 + 9 := by unfold sizeP; omega
            have h8 := offL_mono (L := zs) (show k ≤ k + 1 by omega)
            omega
          have HS2 := Lib.hid (packSet hP8 (HLd.out _ B8.out) (k : Int) (by omega) zs[k] (by have := HOk.out.1.small hkl2; omega))
          rw [setP_ok hsz8 (by simp; omega) (HOk.out.1.small hkl2), set_back hkl2 s] at HS2
          clear hP8 hF8 c8 hc hsz8
          generalize zs[k] = x at *
          go_wp2_with fail
          refine HS2.out.mono ?_
          rintro e w9 ⟨rfl, ⟨F9, hP9, hF9⟩, c9⟩
          have B9 := Lib.hid (belowChg B8.out c9 B8.out.size fun k hk _ => KF8.out k hk)
          have HB9 := Lib.hid (packBytes hP9)
          rw [HAe.out] at HB9
          clear hP9 hF9 c9 HS2
          go_wp2_with fail
          refine HB9.out.mono ?_
          rintro e w' ⟨rfl, rfl⟩
          go_wp2_with fail
          go_ret
          exact ⟨rfl, B9.out⟩
      · have hins := insP_no hkl (show 65536 < s.size by omega)
        rw [hins] at HI
        have hd6 : decide ((65536 : Int) < (s.size : Int)) = true := by simp; omega
        clear hins
        go_wp2_with fail
        refine HBb.out.mono ?_
        rintro e w' ⟨rfl, rfl⟩
        go_wp2_with fail
        refine HI.out.mono ?_
        rintro e w5 ⟨rfl, ⟨F5, hP5, hF5⟩, c5⟩
        have B5 := Lib.hid (belowChg B4.out c5 B4.out.size fun k hk _ => KF.out k hk)
        have HB5 := Lib.hid (packBytes hP5)
        rw [HAe.out] at HB5
        clear hP5 hF5 c5 HI
        go_wp2_with fail
        refine HB5.out.mono ?_
        rintro e w' ⟨rfl, rfl⟩
        go_wp2_with fail
        go_ret
        exact ⟨rfl, B5.out⟩
  · have d1 : decide (n ≤ 1000) = false := decide_eq_false h1
    rw [d1] at HM1
    go_enter Tryd.func7, Tryd.ntmps7
    go_wp2_with fail
    refine (HAl.out _ (Below.refl _ _)).mono ?_
    rintro e w1 ⟨rfl, b1⟩
    have B1 := Lib.hid b1
    clear b1
    go_wp2_with fail
    refine (HM1.out _ B1.out).mono ?_
    rintro e w2 ⟨rfl, b2⟩
    have B2 := Lib.hid (B1.out.trans (b2.mono B1.out.size))
    clear b2
    go_wp2_with fail
    refine (HAl.out _ B2.out).mono ?_
    rintro e w3 ⟨rfl, b3⟩
    have B3 := Lib.hid (B2.out.trans (b3.mono B2.out.size))
    clear b3
    go_wp2_with fail
    go_ret
    exact ⟨rfl, B3.out⟩
end Go.Proofs.YtcoepekoacpgnaaDoor
