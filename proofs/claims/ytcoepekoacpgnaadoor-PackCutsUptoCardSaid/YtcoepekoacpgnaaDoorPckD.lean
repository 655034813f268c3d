/- The law PackCuts: the walk. -/
import Derived.Test.YtcoepekoacpgnaaDoorPckA
import Derived.Test.YtcoepekoacpgnaaDoorApt
namespace Go.Proofs.YtcoepekoacpgnaaDoor
set_option linter.unusedVariables false
set_option linter.unusedSimpArgs false
open Go.RowKit
theorem total_cut (L : List ByteArray) (i j : Nat) (h : i ≤ j) : totalT (L.take i ++ L.drop j) ≤ totalT L := by
  unfold totalT
  have h1 : ((L.take i).map ByteArray.size).sum + ((L.drop i).map ByteArray.size).sum = (L.map ByteArray.size).sum := by
    rw [← List.sum_append, ← List.map_append, List.take_append_drop]
  have h2 : ((L.drop j).map ByteArray.size).sum ≤ ((L.drop i).map ByteArray.size).sum := by
    have : L.drop j = (L.drop i).drop (j - i) := by rw [List.drop_drop]; congr 1; omega
    rw [this]
    have := congrArg (fun l => (l.map ByteArray.size).sum) (List.take_append_drop (j - i) (L.drop i))
    simp only [List.map_append, List.sum_append] at this
    omega
  simp only [List.map_append, List.sum_append, List.length_append, List.length_take, List.length_drop]
  omega
theorem fits_cut {L : List ByteArray} (h : fitsT L = true) (i j : Nat) : fitsT (L.take i ++ L.drop j) = true := by
  have h' := of_decide_eq_true h
  refine decide_eq_true fun s hs => ?_
  rcases List.mem_append.1 hs with hs | hs
  · exact h' s (List.mem_of_mem_take hs)
  · exact h' s (List.mem_of_mem_drop hs)
theorem delP_ok {L : List ByteArray} {i m : Nat} (h : i + m ≤ L.length) : delP L i m = (0, L.take i ++ L.drop (i + m)) := by
  unfold delP
  rw [if_neg (by omega), Int.toNat_natCast, Int.toNat_natCast]
theorem delP_far {L : List ByteArray} {n : Int} (h : (L.length : Int) < n) : delP L n 0 = (1, L) := by
  unfold delP; rw [if_pos (by omega)]
theorem delP_many {L : List ByteArray} {n : Int} (h : (L.length : Int) < n) : delP L 0 n = (1, L) := by
  unfold delP; rw [if_pos (by omega)]
def afterT (a : Option Addr) (ca q : Nat) : Option Addr := match a with
  | some ⟨b, o, none⟩ => if ca = q then some ⟨b, o, none⟩ else some ⟨b, o + q, none⟩
  | x => x
set_option maxHeartbeats 6400000 in
set_option maxRecDepth 100000 in
theorem packCuts_walk {w : World} (hl : Laid w) (a : Option Addr) (n ca : Nat) (zs : List ByteArray) (at0 n0 : Int) (ha : zs.length = n ∧ ArgRow w a n ca fun i => .string (zs.getD i ByteArray.empty)) (ta : totalT zs ≤ 1048576)
    (hat : (Lit.int .u16 at0).wf = true) (hnn : (Lit.int .u16 n0).wf = true) :
    Calls Tryd.prog 6 #[.slice a n ca, .int .u16 at0, .int .u16 n0] w fun e w' => e = .returned (.bool true) ∧ Below w.heap.size w w' := by
  have u16n : ∀ {x : Int}, (Lit.int .u16 x).wf = true → ∃ m : Nat, x = m ∧ m < 65536 := fun {x} h => by
    have hx : 0 ≤ x ∧ x ≤ 65535 := by simpa [Lit.wf, IntKind.min, IntKind.max, IntKind.signed, IntKind.bits] using h
    exact ⟨x.toNat, by omega, by omega⟩
  obtain ⟨av, rfl, hav⟩ := u16n hat
  obtain ⟨nv, rfl, hnv⟩ := u16n hnn
  clear u16n hat hnn
  have HAl := Lib.hid (fun w' (hb : Below w.heap.size w w') => alive5_any (hl.below hb))
  have HA := Lib.hid (fun w' (hbe : Below w.heap.size w w') => show ArgRow w' a n ca fun i => .string (zs.getD i ByteArray.empty) from ha.2.belowT hbe)
  have HM1 := Lib.hid (fun w' (hbe : Below w.heap.size w w') => may_any w' a n ca zs ha.1 (HA.out w' hbe) ta)
  have HF1 := Lib.hid (fun w' (hbe : Below w.heap.size w w') => filled_any (hl.below hbe) a n ca zs ha.1 (HA.out w' hbe) ta)
  have HLd := Lib.hid (fun w' (hbe : Below w.heap.size w w') => hl.below hbe)
  have hn1 : n ≤ 1048576 := by have := ha.1; unfold totalT at ta; omega
  have hac := ha.2.1
  have HLn := Lib.hid ha.1
  have HTot := Lib.hid ta
  obtain ⟨k, hk⟩ : ∃ k, av % (n + 1) = k := ⟨_, rfl⟩
  have hkn : k ≤ n := by rw [← hk]; have := Nat.mod_lt av (show 0 < n + 1 by omega); omega
  have hmod : (av : Int) % ((n : Int) + 1) = (k : Int) := by rw [← hk]; rfl
  obtain ⟨m, hm⟩ : ∃ m, nv % (n - k + 1) = m := ⟨_, rfl⟩
  have hkm : k + m ≤ n := by rw [← hm]; have := Nat.mod_lt nv (show 0 < n - k + 1 by omega); omega
  have hmod2 : (nv : Int) % ((n : Int) - (k : Int) + 1) = (m : Int) := by
    rw [show (n : Int) - (k : Int) + 1 = ((n - k + 1 : Nat) : Int) by omega, ← hm]; rfl
  have HMd := Lib.hid (And.intro hmod hmod2)
  have HZ := Lib.hid (show n = 0 → k = 0 ∧ m = 0 from fun h => by omega)
  clear ta hl hk hm hmod hmod2
  by_cases h1 : n ≤ 1000
  · have d1 : decide (n ≤ 1000) = true := decide_eq_true h1
    rw [d1] at HM1
    clear ha
    go_enter Tryd.func6, Tryd.ntmps6
    go_wp2_with fail
    refine (HAl.out _ (Below.refl _ _)).mono ?_
    rintro e w1 ⟨rfl, b1⟩
    have B1 := Lib.hid b1
    clear b1
    go_wp2_with fail
    refine (HM1.out _ B1.out).mono ?_
    rintro e w2 ⟨rfl, b2⟩
    have B2 := Lib.hid (B1.out.trans (b2.mono B1.out.size))
    clear b2
    go_wp2_with fail
    refine (HF1.out _ B2.out).mono ?_
    rintro e w4 ⟨⟨p, rfl, hp⟩, b4⟩
    have B4 := Lib.hid (B2.out.trans (b4.mono B2.out.size))
    have HB34 := Lib.hid B2.out.size
    clear b4
    cases f1 : fitsT zs with
    | false =>
      rw [f1] at hp
      clear hp
      go_wp2_with fail
      go_ret
      exact ⟨rfl, B4.out⟩
    | true =>
      obtain ⟨F, hP, hF⟩ := hp f1
      have HP := Lib.hid hP
      have KF := Lib.hid (show ∀ k, F k → w.heap.size ≤ k from fun k hk => Nat.le_trans HB34.out (hF k hk))
      have HFit := Lib.hid (fits_cut f1 k (k + m))
      -- the rest
      have hcl : (n = 0 ∧ k = 0 ∧ m = 0) ∨ ∃ b o, a = some ⟨b, o, none⟩ := by
        rcases (HA.out _ B4.out).2 with h | ⟨b, o, e, _⟩
        · exact .inl ⟨h, HZ.out h⟩
        · exact .inr ⟨b, o, e⟩
      obtain ⟨v1, w5, r1, s1, b5⟩ := append_texts (a := a) (c := ca) (xs := []) (ys := zs.take k) (m := k) (SliceIs.nil w4 w4.heap.size 9) (Nat.le_refl _) (by rw [List.length_take, HLn.out]; omega)
        ((HA.out _ B4.out).2.imp (fun h => by omega) fun ⟨b, o, e, hc⟩ => ⟨b, o, e, fun i hi => by
          rw [hc i (by omega)]; simp [List.getD, List.getElem?_take, hi]⟩) (by omega)
      rw [Nat.zero_add, List.nil_append] at s1
      obtain ⟨av1, cv1, rfl, harg1⟩ := texts_of_slice s1
      have B5 := Lib.hid (B4.out.trans (b5.mono B4.out.size))
      obtain ⟨a2, ha2⟩ : ∃ a2 : Option Addr, a2 = afterT a ca (k + m) := ⟨_, rfl⟩
      have hsrc : n - (k + m) = 0 ∨ ∃ b o, a2 = some ⟨b, o, none⟩ ∧ ∀ i, i < n - (k + m) → w5.cell? ⟨b, o + i, none⟩ = some (.string ((zs.drop (k + m)).getD i ByteArray.empty)) := by
        rcases (HA.out _ B5.out).2 with h | ⟨b, o, e, hc⟩
        · exact .inl (by omega)
        · by_cases hq : ca = k + m
          · exact .inl (by omega)
          · refine .inr ⟨b, o + (k + m), by rw [ha2, e]; simp [afterT, hq], fun i hi => ?_⟩
            rw [show o + (k + m) + i = o + (k + m + i) by omega, hc (k + m + i) (by omega)]
            simp [List.getD, List.getElem?_drop]
      obtain ⟨v2, w6, r2, s2, b6⟩ := append_texts (a := a2) (c := ca - (k + m)) (ys := zs.drop (k + m)) (m := n - (k + m)) s1 b5.size (by rw [List.length_drop, HLn.out]) hsrc (by omega)
      obtain ⟨av2, cv2, rfl, harg2⟩ := texts_of_slice s2
      have B6 := Lib.hid (B5.out.trans (b6.mono B4.out.size))
      obtain ⟨R, hR⟩ : ∃ R, zs.take k ++ zs.drop (k + m) = R := ⟨_, rfl⟩
      obtain ⟨nr, hnr⟩ : ∃ nr, k + (n - (k + m)) = nr := ⟨_, rfl⟩
      have hRl : R.length = nr := by rw [← hR, ← hnr, List.length_append, List.length_take, List.length_drop, HLn.out]; omega
      rw [hR, hnr] at harg2
      rw [hR] at HFit
      have hnrb : nr ≤ n := by omega
      have HF2 := Lib.hid (filled_any (HLd.out _ B6.out) av2 nr cv2 R hRl harg2 (by rw [← hR]; exact Nat.le_trans (total_cut zs k (k + m) (by omega)) HTot.out))
      rw [HFit.out] at HF2
      rw [hnr] at r2
      obtain ⟨i0, g1, g2, g3, g4⟩ := info_parts info_str
      have HZa := Lib.hid (fun (x : Option Addr) (c : Nat) => run_append_none (P := Tryd.prog) (ty := 22) Tryd.underlying22 g1 g3 s1 x c)
      clear g1 g2 g3 g4
      have HR := Lib.hid (And.intro hR (And.intro hRl hnr))
      have HR1 := Lib.hid r1
      have HR2 := Lib.hid r2
      have HP6 := Lib.hid (show PackF w6 p F zs from hP.below (show Below w4.heap.size w4 w6 from b5.trans b6))
      have HDe := Lib.hid (delP_ok (L := zs) (i := k) (m := m) (by rw [HLn.out]; exact hkm))
      clear hp f1 hP hF r1 r2 b5 b6 s1 s2 harg1 harg2 hsrc hR hRl hnr
      obtain ⟨hmod, hmod2⟩ := HMd.out
      rcases hcl with ⟨rfl, rfl, rfl⟩ | ⟨b, o, rfl⟩
      · have e := (HZa.out a2 (ca - (0 + 0))).symm.trans HR2.out
        injection e with e1 e2
        injection e1 with e3 e4 e5
        subst e2 e3 e4 e5
        clear HR2
        go_upto_region 9 with (fail)
        go_upto_region 10 with (at_builtin; refine wpList_append_run rfl rfl HR1.out ?_)
        clear hmod hmod2
        go_upto_region 11 with (at_builtin; refine wpList_append_run rfl rfl (HZa.out _ _) ?_)
        go_wp2_with fail
        refine HF2.out.mono ?_
        rintro e w7 ⟨⟨q, rfl, hq7⟩, b7⟩
        obtain ⟨G, hQ, hG⟩ := hq7 trivial
        have B7 := Lib.hid (B6.out.trans (b7.mono B6.out.size))
        have HP7 := Lib.hid (HP6.out.below b7)
        have HQ7 := Lib.hid hQ
        have HGF := Lib.hid (show ∀ k, G k → ¬ F k from fun k h1 h2 => by have := HP6.out.lt h2; have := hG k h1; omega)
        have HD7 := Lib.hid (packDelete HP7.out (HLd.out _ B7.out) ((0 : Nat) : Int) ((0 : Nat) : Int) (by omega) (by omega))
        rw [HDe.out, HR.out.1] at HD7
        rw [show ((0 : Nat) : Int) = 0 from rfl] at HD7
        clear b7 hq7 hQ hG HF2
        go_wp2_with fail
        refine HD7.out.mono ?_
        rintro e w8 ⟨rfl, ⟨F8, hP8, hF8⟩, c8⟩
        have B8 := Lib.hid (belowChg B7.out c8 B7.out.size fun k hk _ => KF.out k hk)
        have KF8 := Lib.hid (show ∀ k, F8 k → w.heap.size ≤ k from fun k hk => (hF8 k hk).elim (KF.out k) fun h => Nat.le_trans B7.out.size h)
        have HP8 := Lib.hid hP8
        have HB8 := Lib.hid (packBytes hP8)
        have HB9 := Lib.hid (packBytes (HQ7.out.chg c8 HGF.out))
        have HDl := Lib.hid (packDelete hP8 (HLd.out _ B8.out) 1 0 (by omega) (by omega))
        rw [delP_far (by rw [HR.out.2.1]; omega)] at HDl
        clear hP8 hF8 c8 HD7
        generalize strOf (packL R) = S at *
        go_wp2_with fail
        refine HB8.out.mono ?_
        rintro e w' ⟨rfl, rfl⟩
        go_wp2_with fail
        refine HB9.out.mono ?_
        rintro e w' ⟨rfl, rfl⟩
        go_wp2_with fail
        refine HDl.out.mono ?_
        rintro e w9 ⟨rfl, ⟨F9, hP9, hF9⟩, c9⟩
        have B9 := Lib.hid (belowChg B8.out c9 B8.out.size fun k hk _ => KF8.out k hk)
        have KF9 := Lib.hid (show ∀ k, F9 k → w.heap.size ≤ k from fun k hk => (hF9 k hk).elim (KF8.out k) fun h => Nat.le_trans B8.out.size h)
        have HDm := Lib.hid (packDelete hP9 (HLd.out _ B9.out) 0 1 (by omega) (by omega))
        rw [delP_many (by rw [HR.out.2.1]; omega)] at HDm
        clear hP9 hF9 c9 HDl
        go_wp2_with fail
        refine HDm.out.mono ?_
        rintro e wz ⟨rfl, _, cz⟩
        have BZ := Lib.hid (belowChg B9.out cz B9.out.size fun k hk _ => KF9.out k hk)
        clear cz HDm
        go_wp2_with fail
        go_ret
        exact ⟨rfl, BZ.out⟩
      · by_cases hq : ca = k + m
        · rw [show afterT (some ⟨b, o, none⟩) ca (k + m) = some ⟨b, o, none⟩ by simp [afterT, hq]] at ha2
          subst ha2
          go_upto_region 9 with (fail)
          go_upto_region 10 with (at_builtin; refine wpList_append_run rfl rfl HR1.out ?_)
          clear hmod hmod2
          go_upto_region 11 with (at_builtin; refine wpList_append_run rfl rfl HR2.out ?_)
          go_wp2_with fail
          refine HF2.out.mono ?_
          rintro e w7 ⟨⟨q, rfl, hq7⟩, b7⟩
          obtain ⟨G, hQ, hG⟩ := hq7 trivial
          have B7 := Lib.hid (B6.out.trans (b7.mono B6.out.size))
          have HP7 := Lib.hid (HP6.out.below b7)
          have HQ7 := Lib.hid hQ
          have HGF := Lib.hid (show ∀ k, G k → ¬ F k from fun k h1 h2 => by have := HP6.out.lt h2; have := hG k h1; omega)
          have HD7 := Lib.hid (packDelete HP7.out (HLd.out _ B7.out) (k : Int) (m : Int) (by omega) (by omega))
          rw [HDe.out, HR.out.1] at HD7
          clear b7 hq7 hQ hG HF2
          go_wp2_with fail
          refine HD7.out.mono ?_
          rintro e w8 ⟨rfl, ⟨F8, hP8, hF8⟩, c8⟩
          have B8 := Lib.hid (belowChg B7.out c8 B7.out.size fun k hk _ => KF.out k hk)
          have KF8 := Lib.hid (show ∀ k, F8 k → w.heap.size ≤ k from fun k hk => (hF8 k hk).elim (KF.out k) fun h => Nat.le_trans B7.out.size h)
          have HP8 := Lib.hid hP8
          have HB8 := Lib.hid (packBytes hP8)
          have HB9 := Lib.hid (packBytes (HQ7.out.chg c8 HGF.out))
          have HDl := Lib.hid (packDelete hP8 (HLd.out _ B8.out) ((nr : Int) + 1) 0 (by omega) (by omega))
          rw [delP_far (by rw [HR.out.2.1]; omega)] at HDl
          clear hP8 hF8 c8 HD7
          generalize strOf (packL R) = S at *
          go_wp2_with fail
          refine HB8.out.mono ?_
          rintro e w' ⟨rfl, rfl⟩
          go_wp2_with fail
          refine HB9.out.mono ?_
          rintro e w' ⟨rfl, rfl⟩
          go_wp2_with fail
          refine HDl.out.mono ?_
          rintro e w9 ⟨rfl, ⟨F9, hP9, hF9⟩, c9⟩
          have B9 := Lib.hid (belowChg B8.out c9 B8.out.size fun k hk _ => KF8.out k hk)
          have KF9 := Lib.hid (show ∀ k, F9 k → w.heap.size ≤ k from fun k hk => (hF9 k hk).elim (KF8.out k) fun h => Nat.le_trans B8.out.size h)
          have HDm := Lib.hid (packDelete hP9 (HLd.out _ B9.out) 0 ((nr : Int) + 1) (by omega) (by omega))
          rw [delP_many (by rw [HR.out.2.1]; omega)] at HDm
          clear hP9 hF9 c9 HDl
          go_wp2_with fail
          refine HDm.out.mono ?_
          rintro e wz ⟨rfl, _, cz⟩
          have BZ := Lib.hid (belowChg B9.out cz B9.out.size fun k hk _ => KF9.out k hk)
          clear cz HDm
          go_wp2_with fail
          go_ret
          exact ⟨rfl, BZ.out⟩
        · rw [show afterT (some ⟨b, o, none⟩) ca (k + m) = some ⟨b, o + (k + m), none⟩ by simp [afterT, hq]] at ha2
          subst ha2
          go_upto_region 9 with (fail)
          go_upto_region 10 with (at_builtin; refine wpList_append_run rfl rfl HR1.out ?_)
          clear hmod hmod2
          go_upto_region 11 with (at_builtin; refine wpList_append_run rfl rfl HR2.out ?_)
          go_wp2_with fail
          refine HF2.out.mono ?_
          rintro e w7 ⟨⟨q, rfl, hq7⟩, b7⟩
          obtain ⟨G, hQ, hG⟩ := hq7 trivial
          have B7 := Lib.hid (B6.out.trans (b7.mono B6.out.size))
          have HP7 := Lib.hid (HP6.out.below b7)
          have HQ7 := Lib.hid hQ
          have HGF := Lib.hid (show ∀ k, G k → ¬ F k from fun k h1 h2 => by have := HP6.out.lt h2; have := hG k h1; omega)
          have HD7 := Lib.hid (packDelete HP7.out (HLd.out _ B7.out) (k : Int) (m : Int) (by omega) (by omega))
          rw [HDe.out, HR.out.1] at HD7
          clear b7 hq7 hQ hG HF2
          go_wp2_with fail
          refine HD7.out.mono ?_
          rintro e w8 ⟨rfl, ⟨F8, hP8, hF8⟩, c8⟩
          have B8 := Lib.hid (belowChg B7.out c8 B7.out.size fun k hk _ => KF.out k hk)
          have KF8 := Lib.hid (show ∀ k, F8 k → w.heap.size ≤ k from fun k hk => (hF8 k hk).elim (KF.out k) fun h => Nat.le_trans B7.out.size h)
          have HP8 := Lib.hid hP8
          have HB8 := Lib.hid (packBytes hP8)
          have HB9 := Lib.hid (packBytes (HQ7.out.chg c8 HGF.out))
          have HDl := Lib.hid (packDelete hP8 (HLd.out _ B8.out) ((nr : Int) + 1) 0 (by omega) (by omega))
          rw [delP_far (by rw [HR.out.2.1]; omega)] at HDl
          clear hP8 hF8 c8 HD7
          generalize strOf (packL R) = S at *
          go_wp2_with fail
          refine HB8.out.mono ?_
          rintro e w' ⟨rfl, rfl⟩
          go_wp2_with fail
          refine HB9.out.mono ?_
          rintro e w' ⟨rfl, rfl⟩
          go_wp2_with fail
          refine HDl.out.mono ?_
          rintro e w9 ⟨rfl, ⟨F9, hP9, hF9⟩, c9⟩
          have B9 := Lib.hid (belowChg B8.out c9 B8.out.size fun k hk _ => KF8.out k hk)
          have KF9 := Lib.hid (show ∀ k, F9 k → w.heap.size ≤ k from fun k hk => (hF9 k hk).elim (KF8.out k) fun h => Nat.le_trans B8.out.size h)
          have HDm := Lib.hid (packDelete hP9 (HLd.out _ B9.out) 0 ((nr : Int) + 1) (by omega) (by omega))
          rw [delP_many (by rw [HR.out.2.1]; omega)] at HDm
          clear hP9 hF9 c9 HDl
          go_wp2_with fail
          refine HDm.out.mono ?_
          rintro e wz ⟨rfl, _, cz⟩
          have BZ := Lib.hid (belowChg B9.out cz B9.out.size fun k hk _ => KF9.out k hk)
          clear cz HDm
          go_wp2_with fail
          go_ret
          exact ⟨rfl, BZ.out⟩
  · have d1 : decide (n ≤ 1000) = false := decide_eq_false h1
    rw [d1] at HM1
    go_enter Tryd.func6, Tryd.ntmps6
    go_wp2_with fail
    refine (HAl.out _ (Below.refl _ _)).mono ?_
    rintro e w1 ⟨rfl, b1⟩
    have B1 := Lib.hid b1
    clear b1
    go_wp2_with fail
    refine (HM1.out _ B1.out).mono ?_
    rintro e w2 ⟨rfl, b2⟩
    have B2 := Lib.hid (B1.out.trans (b2.mono B1.out.size))
    clear b2
    go_wp2_with fail
    refine (HAl.out _ B2.out).mono ?_
    rintro e w3 ⟨rfl, b3⟩
    have B3 := Lib.hid (B2.out.trans (b3.mono B2.out.size))
    clear b3
    go_wp2_with fail
    go_ret
    exact ⟨rfl, B3.out⟩
end Go.Proofs.YtcoepekoacpgnaaDoor
