/- The row of the law QuickRanges, and its card: for every input of at most 1048576 values and letters the Go function returns true and its arguments read as before, out of the walk quickRanges_walk. The library's variables that the row lists hold what the program's text lays (the card's tie, given). -/
import Derived.Test.YtfbhddllimfdlaaDoorMQuickRanges1
import Derived.Test.YtfbhddllimfdlaaDoorRows
import Derived.Test.YtfbhddllimfdlaaDoorMB1
import Derived.Stop.LaidErr
import Derived.Lib.LaidTab
import Derived.LaidLaws
import Derived.Test.YtfbhddllimfdlaaDoorMB2
import Derived.ChangeSame
import Derived.Test.YtfbhddllimfdlaaDoorCards
import Derived.Test.YtfbhddllimfdlaaDoorTie
import Derived.WalkKit
import Derived.ProofKit
import Derived.OpenShut
import Derived.ShutString
import Derived.ChangeOld
import Derived.Below
import Derived.SizedLaws
import Derived.Laws.Cover2
import Derived.Lib.SmallJoins
import Derived.Deep.Slices
import Derived.Deep.SlicePairs
import Derived.SliceStrings
import Derived.JoinedCond
import Derived.Deep.DeepHandedRow
/- The law QuickRanges: the walk. -/
namespace Go.Proofs.YtfbhddllimfdlaaDoor
set_option linter.unusedVariables false
set_option linter.unusedSimpArgs false
open Go.RowKit
theorem in_range {n k : Nat} {f : Int} (h : k < n) : rfN n f ≤ k ↔ if f < 0 then f ≤ (k : Int) - n else f ≤ (k : Int) := by
  unfold rfN; split <;> omega
theorem to_range {n k : Nat} {t : Int} : (k : Int) ≤ rtN n t ↔ if t < 0 then (k : Int) - n ≤ t else (k : Int) ≤ t := by
  unfold rtN; split <;> omega
theorem range_step {zs : List ByteArray} {n k : Nat} (hn : zs.length = n) (hk : k < n) (f t : Int) :
    rangeT (zs.take (k + 1)) (rfN n f) (rtN n t) = if rfN n f ≤ k ∧ (k : Int) ≤ rtN n t then rangeT (zs.take k) (rfN n f) (rtN n t) ++ [zs.getD k ByteArray.empty] else rangeT (zs.take k) (rfN n f) (rtN n t) := by
  have hkl : k < zs.length := by omega
  have htk : zs.take (k + 1) = zs.take k ++ [zs.getD k ByteArray.empty] := by rw [List.take_succ_eq_append_getElem hkl]; simp [List.getD, hkl]
  have hl : (zs.take k).length = k := by rw [List.length_take]; omega
  rw [htk, rangeT_snoc, hl]
set_option maxHeartbeats 12800000 in
set_option maxRecDepth 100000 in
theorem quickRanges_all {w : World} (hl : Laid w) (a : Option Addr) (n ca : Nat) (zs : List ByteArray) (f t : Int) (ha : zs.length = n ∧ ArgRow w a n ca fun i => .string (zs.getD i ByteArray.empty)) (ta : totalT zs ≤ 1048576)
    (hf : -9223372036854775808 ≤ f ∧ f ≤ 9223372036854775807) (ht : -9223372036854775808 ≤ t ∧ t ≤ 9223372036854775807) :
    Calls Tryd.prog 4 #[.slice a n ca, .int .i64 f, .int .i64 t] w fun e w' => e = .returned (.bool true) ∧ Below w.heap.size w w' := by
  have HAl := Lib.hid (fun w' (hb : Below w.heap.size w w') => alive8_any (hl.below hb))
  have HA := Lib.hid (fun w' (hbe : Below w.heap.size w w') => show ArgRow w' a n ca fun i => .string (zs.getD i ByteArray.empty) from ha.2.belowT hbe)
  have HLd := Lib.hid (fun w' (hbe : Below w.heap.size w w') => hl.below hbe)
  have hn1 : n ≤ 1048576 := by have := ha.1; unfold totalT at ta; omega
  have hac := ha.2.1
  have HLn := Lib.hid ha.1
  have HTot := Lib.hid ta
  clear ta hl ha
  by_cases h1 : n ≤ 300
  · have d1 : decide ((300 : Int) < (n : Int)) = false := decide_eq_false (by omega)
    have d1' : decide (300 < n) = false := decide_eq_false (by omega)
    go_enter Tryd.func4, Tryd.ntmps4
    go_wp2_with fail
    refine (HAl.out _ (Below.refl _ _)).mono ?_
    rintro e w1 ⟨rfl, b1⟩
    have B1 := Lib.hid b1
    have HTs := Lib.hid (textsSize_any w1 a n ca zs HLn.out (HA.out _ b1) HTot.out)
    clear b1
    go_wp2_with fail
    refine HTs.out.mono ?_
    rintro e w' ⟨rfl, rfl⟩
    obtain ⟨w2, hw2⟩ : ∃ w2, w2 = w1.alloc (.cells #[.int .i64 (totalT zs)] 3) := ⟨_, rfl⟩
    have hb2 : Below w1.heap.size w1 w2 := by rw [hw2]; exact (Below.refl _ _).alloc (Nat.le_refl _) _
    have hbe := beyond_any w2 (some ⟨w1.heap.size, 0, none⟩) 1 1 [totalT zs] rfl ⟨Nat.le_refl _, .inr ⟨w1.heap.size, 0, rfl, fun i hi => by
      obtain rfl : i = 0 := by omega
      rw [hw2]; exact cell_in (heap_new _ _) rfl⟩⟩ (by have := HTot.out; simp; omega) (by omega)
    rw [show decide (1048576 < [totalT zs].sum) = false from decide_eq_false (by have := HTot.out; simp; omega)] at hbe
    have HBe := Lib.hid hbe
    have B2 := Lib.hid (B1.out.trans (hb2.mono B1.out.size))
    have HW2 := Lib.hid hw2
    clear hbe hb2 hw2 HTs
    generalize hTT : totalT zs = T at *
    have HTT := Lib.hid hTT
    clear hTT
    go_wp2_with fail
    rw [← HW2.out]
    refine HBe.out.mono ?_
    rintro e w' ⟨rfl, rfl⟩
    have HFi := Lib.hid (filledQ_any (HLd.out _ B2.out) a n ca zs HLn.out (HA.out _ B2.out) (by rw [HTT.out]; exact HTot.out))
    go_wp2_with fail
    refine HFi.out.mono ?_
    rintro e w4 ⟨⟨q, rfl, hp⟩, b4⟩
    have B4 := Lib.hid (B2.out.trans (b4.mono B2.out.size))
    cases f1 : fitsT zs with
    | false =>
      clear hp b4
      go_wp2_with fail
      go_ret
      exact ⟨rfl, B4.out⟩
    | true =>
      obtain ⟨F, hQ, hF⟩ := hp f1
      have HQ := Lib.hid hQ
      clear hp hF b4 hQ f1
      go_wp2_with fail
      go_loopw [9, 10] (fun v i wr => ∃ k : Nat, k ≤ n ∧ i = .int .i64 k ∧ Hid (SliceIs wr w4.heap.size 9 v (rangeT (zs.take k) (rfN n f) (rtN n t)).length ((rangeT (zs.take k) (rfN n f) (rtN n t)).map strV) ∧ Below w4.heap.size w4 wr)) (fun _ i _ => n - (intOf i).toNat)
      case atStart => exact ⟨0, Nat.zero_le _, rfl, Lib.hid ⟨by rw [List.take_zero, rangeT_nil]; exact SliceIs.nil _ _ _, Below.refl _ _⟩⟩
      case round =>
        obtain ⟨k, hk, rfl, hI⟩ := hrel
        obtain ⟨av, cv, rfl, hAv⟩ := texts_of_slice hI.out.1
        by_cases hlt : k < n
        · have hB := B4.out.trans (hI.out.2.mono B4.out.size)
          obtain ⟨b, o, hb, hc⟩ := (HA.out _ hB).2.resolve_left (by omega)
          subst hb
          have hcell : wr.cell? ⟨b, o + k, none⟩ = some (.string (zs.getD k ByteArray.empty)) := hc k hlt
          have hst := range_step HLn.out hlt f t
          have hrl := rangeT_length (zs.take k) (rfN n f) (rtN n t)
          have hrl2 : (zs.take k).length ≤ n := by rw [List.length_take]; omega
          have hin := in_range (n := n) (k := k) (f := f) hlt
          have hto := to_range (n := n) (k := k) (t := t)
          clear hc hAv hB
          obtain ⟨y, hy⟩ : ∃ y, zs.getD k ByteArray.empty = y := ⟨_, rfl⟩
          rw [hy] at hcell hst
          obtain ⟨R, hR⟩ : ∃ R, rangeT (zs.take k) (rfN n f) (rtN n t) = R := ⟨_, rfl⟩
          rw [hR] at hst hI hrl
          clear hy
          by_cases hc2 : rfN n f ≤ k ∧ (k : Int) ≤ rtN n t
          · rw [if_pos hc2] at hst
            obtain ⟨i0, g1, g2, g3, g4⟩ := info_parts info_str
            obtain ⟨v3, w3, hr, s3, b3⟩ := run_append_one (P := Tryd.prog) (t := 35) (ty := 35) Tryd.underlying35 g1 g2 g3 g4 rfl hI.out.1 hI.out.2.size (.string y) rfl (by unfold maxLen; omega) (by omega)
            obtain ⟨a3, c3, rfl, _⟩ := s3.arg
            have HR := Lib.hid hr
            have HS := Lib.hid (show SliceIs w3 w4.heap.size 9 (.slice a3 (R.length + 1) c3) (rangeT (zs.take (k + 1)) (rfN n f) (rtN n t)).length ((rangeT (zs.take (k + 1)) (rfN n f) (rtN n t)).map strV) ∧ Below w4.heap.size w4 w3 from ⟨by rw [hst, List.length_append, List.length_singleton, List.map_append]; exact s3, hI.out.2.trans b3⟩)
            have h1 := hin.1 hc2.1
            have h2 := hto.1 hc2.2
            have HRl := Lib.hid hR
            clear hr s3 b3 hI g1 g2 g3 g4 hst hin hto hc2 hR
            rw [HRl.out]
            generalize R.length = nR at *
            by_cases s1 : f < 0
            · have ds1 : decide (f < 0) = true := decide_eq_true s1
              rw [if_pos s1] at h1
              have da : decide (f ≤ (k : Int) - (n : Int)) = true := decide_eq_true h1
              obtain ⟨b1, hb1⟩ : ∃ b1, decide (f ≤ (k : Int)) = b1 := ⟨_, rfl⟩
              by_cases s2 : t < 0
              · have ds2 : decide (t < 0) = true := decide_eq_true s2
                rw [if_pos s2] at h2
                have db : decide ((k : Int) - (n : Int) ≤ t) = true := decide_eq_true h2
                obtain ⟨b2, hb2⟩ : ∃ b2, decide ((k : Int) ≤ t) = b2 := ⟨_, rfl⟩
                go_wp2_with (at_builtin; refine wpList_append_run rfl rfl HR.out ?_)
                go_roundw
                case rel => exact ⟨k + 1, by omega, by go_num, HS⟩
                case measure => simp [intOf]; omega
              · have ds2 : decide (t < 0) = false := decide_eq_false s2
                rw [if_neg s2] at h2
                have db : decide ((k : Int) ≤ t) = true := decide_eq_true h2
                go_wp2_with (at_builtin; refine wpList_append_run rfl rfl HR.out ?_)
                go_roundw
                case rel => exact ⟨k + 1, by omega, by go_num, HS⟩
                case measure => simp [intOf]; omega
            · have ds1 : decide (f < 0) = false := decide_eq_false s1
              rw [if_neg s1] at h1
              have da : decide (f ≤ (k : Int)) = true := decide_eq_true h1
              by_cases s2 : t < 0
              · have ds2 : decide (t < 0) = true := decide_eq_true s2
                rw [if_pos s2] at h2
                have db : decide ((k : Int) - (n : Int) ≤ t) = true := decide_eq_true h2
                obtain ⟨b2, hb2⟩ : ∃ b2, decide ((k : Int) ≤ t) = b2 := ⟨_, rfl⟩
                go_wp2_with (at_builtin; refine wpList_append_run rfl rfl HR.out ?_)
                go_roundw
                case rel => exact ⟨k + 1, by omega, by go_num, HS⟩
                case measure => simp [intOf]; omega
              · have ds2 : decide (t < 0) = false := decide_eq_false s2
                rw [if_neg s2] at h2
                have db : decide ((k : Int) ≤ t) = true := decide_eq_true h2
                go_wp2_with (at_builtin; refine wpList_append_run rfl rfl HR.out ?_)
                go_roundw
                case rel => exact ⟨k + 1, by omega, by go_num, HS⟩
                case measure => simp [intOf]; omega
          · rw [if_neg hc2] at hst
            have HS := Lib.hid (show SliceIs wr w4.heap.size 9 (.slice av R.length cv) (rangeT (zs.take (k + 1)) (rfN n f) (rtN n t)).length ((rangeT (zs.take (k + 1)) (rfN n f) (rtN n t)).map strV) ∧ Below w4.heap.size w4 wr from ⟨by rw [hst]; exact hI.out.1, hI.out.2⟩)
            have HRl := Lib.hid hR
            clear hI hst hR
            rw [HRl.out]
            generalize R.length = nR at *
            by_cases h1 : rfN n f ≤ k
            · have h2 : ¬ (k : Int) ≤ rtN n t := fun h => hc2 ⟨h1, h⟩
              have h1 := hin.1 h1
              rw [hto] at h2
              clear hin hto hc2
              by_cases s1 : f < 0
              · have ds1 : decide (f < 0) = true := decide_eq_true s1
                rw [if_pos s1] at h1
                have da : decide (f ≤ (k : Int) - (n : Int)) = true := decide_eq_true h1
                obtain ⟨b1, hb1⟩ : ∃ b1, decide (f ≤ (k : Int)) = b1 := ⟨_, rfl⟩
                by_cases s2 : t < 0
                · have ds2 : decide (t < 0) = true := decide_eq_true s2
                  rw [if_pos s2] at h2
                  have db : decide ((k : Int) - (n : Int) ≤ t) = false := decide_eq_false h2
                  obtain ⟨b2, hb2⟩ : ∃ b2, decide ((k : Int) ≤ t) = b2 := ⟨_, rfl⟩
                  go_wp2_with fail
                  go_roundw
                  case rel => exact ⟨k + 1, by omega, by go_num, HS⟩
                  case measure => simp [intOf]; omega
                · have ds2 : decide (t < 0) = false := decide_eq_false s2
                  rw [if_neg s2] at h2
                  have db : decide ((k : Int) ≤ t) = false := decide_eq_false h2
                  go_wp2_with fail
                  go_roundw
                  case rel => exact ⟨k + 1, by omega, by go_num, HS⟩
                  case measure => simp [intOf]; omega
              · have ds1 : decide (f < 0) = false := decide_eq_false s1
                rw [if_neg s1] at h1
                have da : decide (f ≤ (k : Int)) = true := decide_eq_true h1
                by_cases s2 : t < 0
                · have ds2 : decide (t < 0) = true := decide_eq_true s2
                  rw [if_pos s2] at h2
                  have db : decide ((k : Int) - (n : Int) ≤ t) = false := decide_eq_false h2
                  obtain ⟨b2, hb2⟩ : ∃ b2, decide ((k : Int) ≤ t) = b2 := ⟨_, rfl⟩
                  go_wp2_with fail
                  go_roundw
                  case rel => exact ⟨k + 1, by omega, by go_num, HS⟩
                  case measure => simp [intOf]; omega
                · have ds2 : decide (t < 0) = false := decide_eq_false s2
                  rw [if_neg s2] at h2
                  have db : decide ((k : Int) ≤ t) = false := decide_eq_false h2
                  go_wp2_with fail
                  go_roundw
                  case rel => exact ⟨k + 1, by omega, by go_num, HS⟩
                  case measure => simp [intOf]; omega
            · rw [hin] at h1
              clear hin hto hc2
              by_cases s1 : f < 0
              · have ds1 : decide (f < 0) = true := decide_eq_true s1
                rw [if_pos s1] at h1
                have da : decide (f ≤ (k : Int) - (n : Int)) = false := decide_eq_false h1
                obtain ⟨b1, hb1⟩ : ∃ b1, decide (f ≤ (k : Int)) = b1 := ⟨_, rfl⟩
                by_cases s2 : t < 0
                · have ds2 : decide (t < 0) = true := decide_eq_true s2
                  obtain ⟨b3, hb3⟩ : ∃ b3, decide ((k : Int) - (n : Int) ≤ t) = b3 := ⟨_, rfl⟩
                  obtain ⟨b2, hb2⟩ : ∃ b2, decide ((k : Int) ≤ t) = b2 := ⟨_, rfl⟩
                  go_wp2_with fail
                  go_roundw
                  case rel => exact ⟨k + 1, by omega, by go_num, HS⟩
                  case measure => simp [intOf]; omega
                · have ds2 : decide (t < 0) = false := decide_eq_false s2
                  obtain ⟨b3, hb3⟩ : ∃ b3, decide ((k : Int) ≤ t) = b3 := ⟨_, rfl⟩
                  go_wp2_with fail
                  go_roundw
                  case rel => exact ⟨k + 1, by omega, by go_num, HS⟩
                  case measure => simp [intOf]; omega
              · have ds1 : decide (f < 0) = false := decide_eq_false s1
                rw [if_neg s1] at h1
                have da : decide (f ≤ (k : Int)) = false := decide_eq_false h1
                by_cases s2 : t < 0
                · have ds2 : decide (t < 0) = true := decide_eq_true s2
                  obtain ⟨b3, hb3⟩ : ∃ b3, decide ((k : Int) - (n : Int) ≤ t) = b3 := ⟨_, rfl⟩
                  obtain ⟨b2, hb2⟩ : ∃ b2, decide ((k : Int) ≤ t) = b2 := ⟨_, rfl⟩
                  go_wp2_with fail
                  go_roundw
                  case rel => exact ⟨k + 1, by omega, by go_num, HS⟩
                  case measure => simp [intOf]; omega
                · have ds2 : decide (t < 0) = false := decide_eq_false s2
                  obtain ⟨b3, hb3⟩ : ∃ b3, decide ((k : Int) ≤ t) = b3 := ⟨_, rfl⟩
                  go_wp2_with fail
                  go_roundw
                  case rel => exact ⟨k + 1, by omega, by go_num, HS⟩
                  case measure => simp [intOf]; omega
        · obtain rfl : k = n := by omega
          have hB := B4.out.trans (hI.out.2.mono B4.out.size)
          have htk : zs.take k = zs := List.take_of_length_le (by have := HLn.out; omega)
          rw [htk] at hI hAv ⊢
          have HRg := Lib.hid (quickRange (HLd.out _ hB) (HQ.out.toF.below hI.out.2) (by have := HLn.out; omega) f t hf ht)
          rw [HLn.out] at HRg
          have HB := Lib.hid hB
          obtain ⟨R, hR⟩ : ∃ R, rangeT zs (rfN k f) (rtN k t) = R := ⟨_, rfl⟩
          have hrl := rangeT_length zs (rfN k f) (rtN k t)
          rw [hR] at HRg hAv hrl ⊢
          have hzl := HLn.out
          have HAv := Lib.hid hAv
          clear hI htk hB hAv hR
          generalize hnr : R.length = nR at *
          have HNr := Lib.hid hnr
          clear hnr
          go_wp2_with fail
          refine HRg.out.mono ?_
          rintro e w5 ⟨⟨v5, rfl, s5⟩, b5⟩
          obtain ⟨a5, c5, rfl, hA5⟩ := texts_of_slice s5
          have HSt := Lib.hid (sameTexts_any w5 a5 av nR nR c5 cv R R HNr.out HNr.out hA5 (HAv.out.belowT b5) (by omega))
          rw [decide_eq_true rfl] at HSt
          have B5 := Lib.hid (HB.out.trans (b5.mono HB.out.size))
          clear s5 b5 hA5
          go_wp2_with fail
          refine HSt.out.mono ?_
          rintro e w6 ⟨rfl, k6, rfl⟩
          go_wp2_with fail
          go_ret
          exact ⟨rfl, belowN B5.out k6⟩
  · have d1 : decide ((300 : Int) < (n : Int)) = true := decide_eq_true (by omega)
    have d1' : decide (300 < n) = true := decide_eq_true (by omega)
    go_enter Tryd.func4, Tryd.ntmps4
    go_wp2_with fail
    refine (HAl.out _ (Below.refl _ _)).mono ?_
    rintro e w1 ⟨rfl, b1⟩
    have B1 := Lib.hid b1
    clear b1
    go_wp2_with fail
    refine (HAl.out _ B1.out).mono ?_
    rintro e w3 ⟨rfl, b3⟩
    have B3 := Lib.hid (B1.out.trans (b3.mono B1.out.size))
    clear b3
    go_wp2_with fail
    go_ret
    exact ⟨rfl, B3.out⟩
theorem quickRanges_walk {w : World} (hl : Laid w) (a : Option Addr) (n ca : Nat) (zs : List ByteArray) (f t : Int) (ha : zs.length = n ∧ ArgRow w a n ca fun i => .string (zs.getD i ByteArray.empty)) (ta : totalT zs ≤ 1048576)
    (hf : (Lit.int .i64 f).wf = true) (ht : (Lit.int .i64 t).wf = true) :
    Calls Tryd.prog 4 #[.slice a n ca, .int .i64 f, .int .i64 t] w fun e w' => e = .returned (.bool true) ∧ Below w.heap.size w w' := by
  have r : ∀ {x : Int}, (Lit.int .i64 x).wf = true → -9223372036854775808 ≤ x ∧ x ≤ 9223372036854775807 := fun {x} h => by
    simpa [Lit.wf, IntKind.min, IntKind.max, IntKind.signed, IntKind.bits] using h
  exact quickRanges_all hl a n ca zs f t ha ta (r hf) (r ht)
end Go.Proofs.YtfbhddllimfdlaaDoor

/- what a row's list of variables gives (door seats): Laid; and a world that meets it. -/
namespace Go.Proofs.YtfbhddllimfdlaaDoor
set_option linter.unusedVariables false
set_option linter.unusedSimpArgs false
open Go.RowKit
namespace Lay
theorem star : "*" ++ "errors.errorString" = "*errors.errorString" := by decide
theorem rowErr (u : TypeId) (h : Tryd.prog.typeName? 3 u = some "*errors.errorString") : u = 171 :=
  typeName_ptr_named (nm := "errors.errorString") (by rw [star]; kernel_rfl) (by kernel_rfl) (by decide) u (by rw [star]; exact h)
theorem laid_of {W : World} (h : laidMetH Tryd.prog Rows.packParsesRow.laid W) (hs : W.ShapedOpen Tryd.prog) : Laid W := by
  have h0 : laidMet Tryd.prog Rows.packParsesRow.laid W := h
  have h3 : laidMet Tryd.prog [("internal/strconv.uint64pow10", Rows.laid_internal_strconv_uint64pow10), ("strconv.ErrRange", Rows.laid_strconv_ErrRange), ("strconv.ErrSyntax", Rows.laid_strconv_ErrSyntax)] W := h0.tail.tail
  refine { tab := Lib.tabIs_of_head (n := 20) (g := 0) (by kernel_rfl) (by kernel_rfl) Tryd.underlying159 Tryd.underlying71 (by kernel_rfl) (by kernel_rfl) h3, syn := ?_, rng := ?_
         }
  · obtain ⟨a, _, hv, _⟩ := laid_sentinel (g := 1) h3.tail.tail (by kernel_rfl) (by kernel_rfl) Tryd.underlying132 rowErr Tryd.underlying171 Tryd.underlying173 rfl rfl Tryd.underlying9 (by kernel_rfl) (by kernel_rfl)
    exact ⟨_, _, hv⟩
  · obtain ⟨a, _, hv, _⟩ := laid_sentinel (g := 2) h3.tail (by kernel_rfl) (by kernel_rfl) Tryd.underlying132 rowErr Tryd.underlying171 Tryd.underlying173 rfl rfl Tryd.underlying9 (by kernel_rfl) (by kernel_rfl)
    exact ⟨_, _, hv⟩
/-- So many blocks has the settled world. -/
noncomputable def low : Nat := (World.holding Tryd.prog default ⟨#[], #[], []⟩).heap.size
abbrev synS : ByteArray := { data := #[105, 110, 118, 97, 108, 105, 100, 32, 115, 121, 110, 116, 97, 120] }
abbrev rngS : ByteArray := { data := #[118, 97, 108, 117, 101, 32, 111, 117, 116, 32, 111, 102, 32, 114, 97, 110, 103, 101] }
def lits : List (DataW Unit) → Array Value
  | [] => #[]
  | .lit (.int k n) :: l => #[.int k n] ++ lits l
  | _ :: l => lits l
def table : DataW Unit → Array Value
  | .agg l => lits l
  | _ => #[]
def into (cs : Array Value) : Obj → Obj
  | .cells _ t frozen => .cells cs t frozen
  | o => o
noncomputable def laidWorld (os : Os) : World :=
  let w0 := World.holding Tryd.prog os ⟨#[.cells #[.string synS] 173, .cells #[.string rngS] 173], #[], []⟩
  { w0 with heap := ((((w0.heap.modify 0 (into (table Rows.laid_internal_strconv_uint64pow10))).modify 3 (into (table Rows.laid_math_bits_deBruijn32tab))).modify 4 (into (table Rows.laid_math_bits_deBruijn64tab))).modify 1 (into #[.iface 171 (.pointer (some ⟨low, 0, none⟩))])).modify 2 (into #[.iface 171 (.pointer (some ⟨low + 1, 0, none⟩))]) }
theorem laid_met (os : Os) (args : Array Value) : laidMet Tryd.prog Rows.packParsesRow.laid ((laidWorld os).forCall (fun _ _ => 0) ⟨#[], args, []⟩).memory :=
  laidMet_of_run' 8 (by kernel_rfl) (by kernel_rfl)
end Lay
end Go.Proofs.YtfbhddllimfdlaaDoor

/- Opening slices that came in, at a row that bounds what it reads. -/
namespace Go.Proofs.YtfbhddllimfdlaaDoor
set_option linter.unusedVariables false
set_option linter.unusedSimpArgs false
open Go.RowKit Go.ChangeShapes Go.WideShapes Go.Deep
section
variable {H : Type} {enc : TypeId × Value → H} {w : World} {base : Nat} {spare : Nat → Bool} {held : Bool} {fuel : Nat}
theorem bulk_partT {d : DataW H} {l : List (DataW H)} (h : d ∈ l) : Rows.uptoBulk d ≤ Rows.uptoBulkAll l := by
  induction l with
  | nil => cases h
  | cons x r ih =>
    simp only [Rows.uptoBulkAll]
    rcases List.mem_cons.1 h with e | e
    · subst e; omega
    · have := ih e; omega
theorem bulk_texts (f : Nat → DataW H) (S : Nat → ByteArray) : ∀ (l : List Nat), (∀ i ∈ l, f i = .lit (.string (S i).data.toList)) → totalT (l.map S) ≤ Rows.uptoBulkAll (l.map f)
  | [], _ => by simp [totalT]
  | i :: l, h => by
    have h1 := bulk_texts f S l fun j hj => h j (by simp [hj])
    have h2 := h i (by simp)
    have e : (S i).data.toList.length = (S i).size := by rw [Array.length_toList]; rfl
    unfold totalT at *
    simp only [List.map_cons, Rows.uptoBulkAll, h2, Rows.uptoBulk, List.length_cons, List.sum_cons]
    omega
/-- A slice of texts. -/
theorem texts_arg {a : Option Addr} {len cap : Nat} {d : DataW H} {ps : List MemPlace} (h : DataW.Trod enc Tryd.prog w base spare held 35 (.slice a len cap) d ps) (hb : Rows.uptoBulk d ≤ 1048576) :
    ∃ zs : List ByteArray, (zs.length = len ∧ ArgRow w a len cap (fun i => .string (zs.getD i ByteArray.empty))) ∧ totalT zs ≤ 1048576 := by
  obtain ⟨fuel, hf⟩ := h
  rcases open_slice1 Tryd.underlying35 (by kernel_rfl) hf with ⟨hcs, _⟩ | ⟨x, l, c, m, n, V, D, Pl, hcs, hx, hl, hm, hmm, hd, hV⟩
  · simp [Value.cells] at hcs
    obtain ⟨rfl, rfl, rfl⟩ := hcs
    exact ⟨[], ⟨rfl, Nat.le_refl _, .inl rfl⟩, by decide⟩
  · simp [Value.cells] at hcs
    obtain ⟨rfl, rfl, rfl⟩ := hcs
    have hle : len ≤ m := by rw [hmm]; split <;> omega
    have each : ∀ i, i < m → ∃ s : ByteArray, V i = .string s ∧ D i = .lit (.string s.data.toList) := fun i hi => by
      obtain ⟨s, hs, hd, _⟩ := DataW.trod_string Tryd.underlying9 (hV i hi).2
      exact ⟨s, by simpa using hs, (Prod.mk.inj hd).1⟩
    obtain ⟨S, hS⟩ := choose_lt each
    have hd1 : d = .slice ((List.range len).map D) ((List.range (m - len)).map fun j => D (len + j)) := (Prod.mk.inj hd).1
    rw [hd1] at hb
    simp only [Rows.uptoBulk] at hb
    refine ⟨(List.range len).map S, ⟨by simp, argRow_of hl fun i hi => ?_⟩, ?_⟩
    · rw [(hV i (by omega)).1, (hS i (by omega)).1]
      simp [List.getD, hi]
    · have := bulk_texts D S (List.range len) fun i hi => (hS i (by have := List.mem_range.1 hi; omega)).2
      omega
end
end Go.Proofs.YtfbhddllimfdlaaDoor

/- The row of the law QuickRanges, and its card: for every input of at most 1048576 values and letters the Go function returns true and its arguments read as before, out of the walk quickRanges_walk. The library's variables that the row lists hold what the program's text lays (the card's tie, given). -/
namespace Go.Proofs.YtfbhddllimfdlaaDoor.quickRangesRow
open Go.ChangeShapes Go.WideShapes Go.ChangeAt Go.RowKit
open Go.ChangeMaps (open_string shut_string)
set_option linter.unusedVariables false
set_option linter.unusedSimpArgs false
theorem own : ownKnob Tryd.prog.godebug = none := by kernel_rfl
theorem laidOut : laidOutB Tryd.prog = true := by kernel_rfl
theorem bulk {H : Type} {l : List (DataW H)} (hk : Rows.uptoSmall H l = true) : Rows.uptoBulkAll l ≤ 1048576 := of_decide_eq_true hk
theorem reads (os : Os) {H : Type} (enc : TypeId × Value → H) : ∃ places, DataW.whole enc Tryd.prog ((Lay.laidWorld os).forCall (fun _ _ => 0) ⟨#[], #[.slice none 0 0, .int .i64 0, .int .i64 0], []⟩).memory Tryd.f4.params.toList Rows.quickRangesSpec.vars false (#[.slice none 0 0, .int .i64 0, .int .i64 0] : Array Value).toList 8 = some ([.nil, .lit (.int .i64 0), .lit (.int .i64 0)], [], places) :=
  ⟨[], by kernel_rfl⟩
set_option maxRecDepth 100000 in
theorem contract (H : Type) (enc : TypeId × Value → H) (W : World) (base : Nat) (args : Array Value) (ds gs : List (DataW H)) (before : List MemPlace)
    (hval0 : ∀ (j : Nat) t v, Tryd.f4.params[j]? = some t → args[j]? = some v → Value.okWide Tryd.prog W .any base t v)
    (hW : DataW.Whole enc Tryd.prog Tryd.f4.params.toList Rows.quickRangesSpec.vars false W args.toList ds gs before) (hk0 : Rows.uptoSmall H (ds ++ gs) = true)
    (hsz0 : (DataW.weightsEach Tryd.prog (Tryd.f4.params.toList ++ Rows.quickRangesSpec.plain.varTypes Tryd.prog) (ds ++ gs)).all (· ≤ reachBytes) = true) (hL : Laid W) :
    Calls Tryd.prog 4 args W fun e W' => ∃ v, e = .returned v ∧ Rows.quickRangesSpec.post enc Tryd.prog Tryd.f4 false true false false W args v W' := by
  have hsz := hsz0
  have hk := bulk hk0
  have hval : ∀ (j : Nat) t v, Tryd.f4.params[j]? = some t → args[j]? = some v → Value.okWide Tryd.prog W .any base t v := hval0
  have hW' := hW
  obtain ⟨p, q, hA0, hV, rfl, hfz, hnd⟩ := hW
  have hA : DataW.TrodAll enc Tryd.prog W 0 (fun _ => true) true Tryd.f4.params.toList args.toList ds p := hA0
  rw [Tryd.params4] at hA hval hsz
  obtain ⟨v0, vs0, d0, ds0, p0, q0, hargs, rfl, rfl, h0, r0⟩ := trodAll_cons hA
  obtain ⟨v1, vs1, d1, ds1, p1, q1, rfl, rfl, rfl, h1, r1⟩ := trodAll_cons r0
  obtain ⟨v2, vs2, d2, ds2, p2, q2, rfl, rfl, rfl, h2, r2⟩ := trodAll_cons r1
  obtain ⟨rfl, rfl, rfl⟩ := trodAll_nil r2
  obtain rfl : args = #[v0, v1, v2] := by cases args; simp_all
  obtain ⟨rfl, rfl⟩ := trodVars_none hV
  have k0 := h0
  have lt0 : ∀ x ∈ p0, x.block < W.heap.size := by obtain ⟨m, hm⟩ := k0; exact DataW.trod_lt m _ _ _ hm
  obtain ⟨a0, len0, cap0, rfl⟩ := okWide_slice Tryd.underlying35 (hval 0 35 v0 rfl rfl)
  have b0 : Rows.uptoBulk d0 ≤ 1048576 := by
    have := hk
    simp only [List.cons_append, List.nil_append, List.append_nil, Rows.uptoBulkAll] at this
    omega
  obtain ⟨z0, w0, y0⟩ := texts_arg h0 b0
  have k1 := h1
  have lt1 : ∀ x ∈ p1, x.block < W.heap.size := by obtain ⟨m, hm⟩ := k1; exact DataW.trod_lt m _ _ _ hm
  obtain ⟨a1, rfl, rfl, rfl, w1⟩ := open_int Tryd.underlying3 (hval 1 3 v1 rfl rfl) h1
  have k2 := h2
  have lt2 : ∀ x ∈ p2, x.block < W.heap.size := by obtain ⟨m, hm⟩ := k2; exact DataW.trod_lt m _ _ _ hm
  obtain ⟨a2, rfl, rfl, rfl, w2⟩ := open_int Tryd.underlying3 (hval 2 3 v2 rfl rfl) h2
  simp only [List.cons_append, List.nil_append, List.append_nil, Rows.uptoBulkAll, Rows.uptoBulk] at hk
  clear hA0 hval0 hsz0 hsz
  refine (quickRanges_walk hL a0 len0 cap0 z0 a1 a2 w0 y0 w1 w2).mono fun e W' ⟨he, bel⟩ => ?_
  subst he
  exact ⟨_, rfl, _, _, _, [], _, [], hW', trodAll_mk1 (shut_bool Tryd.underlying4 _), (trodAll_cons_mk (Below.trod laidOut (by kernel_rfl) (of_decide_eq_true (by kernel_rfl)) k0 bel lt0) (trodAll_cons_mk (Below.trod laidOut (by kernel_rfl) (of_decide_eq_true (by kernel_rfl)) k1 bel lt1) (trodAll_cons_mk (Below.trod laidOut (by kernel_rfl) (of_decide_eq_true (by kernel_rfl)) k2 bel lt2) trodAll_mk0))), rfl, bel.frame _, fun h => by cases h⟩
set_option maxRecDepth 100000 in
theorem liftedUpto (os : Os) (started : os.Started) (H : Type) (enc : TypeId × Value → H) (F : Stop.Interp) :
    ReturnsInHanded {} Tryd.checked os 4 .any ((Rows.OpenSpec.upto Rows.quickRangesSpec).preRow enc Tryd.prog Tryd.f4 Rows.quickRangesUptoRow.domain false Rows.quickRangesUptoRow.laid) (((Rows.OpenSpec.upto Rows.quickRangesSpec).at F).post enc Tryd.prog Tryd.f4 false true false false) := by
  obtain ⟨places, hx⟩ := reads os enc
  refine returnsInHanded_of_row (C := Tryd.checked) (s := (Rows.OpenSpec.upto Rows.quickRangesSpec)) own started (by kernel_rfl) Tryd.func4
    (witness_row_at (enc := enc) (C := Tryd.checked) false (Lay.laidWorld os) #[.slice none 0 0, .int .i64 0, .int .i64 0] rfl (by kernel_rfl) (by kernel_rfl) (by kernel_rfl)
      (OpenSpec.preRow_of_cond 8 hx (by kernel_rfl) (fun k hk => by cases hk; kernel_rfl) (by kernel_rfl) (Lay.laid_met os _))) ?_
  intro W base args ds gs before hval hW _ hcond hsz hL hS _
  exact contract H enc W base args ds gs before hval hW (hcond _ rfl) hsz (Lay.laid_of hL hS)
theorem saidUpto : Rows.QuickRangesUptoSaid :=
  OpenClaim.holds_of_cond 4 Tryd.f4 rfl rfl rfl rfl rfl rfl rfl ⟨rfl, rfl, rfl, rfl, rfl⟩ rfl rfl rfl rfl rfl (by kernel_rfl) Tryd.func4 (by kernel_rfl)
    (of_decide_eq_true (by kernel_rfl)) (by unfold Func.isWrapper; first | (rw [if_pos (by decide +kernel)]; kernel_rfl) | (rw [if_neg (by decide +kernel)]; exact ⟨rfl, rfl⟩))
    (fun os started H enc _ F => by rw [OpenClaim.pre_eq_preRow]; exact liftedUpto os started H enc F)
theorem plain (f : FuncId) (fn : Func) (hf : Tryd.pinned.checked.prog.funcNamed "stillroom/stillroomlaw08.QuickRanges" = some f) (hfn : Tryd.pinned.checked.prog.funcs[f]? = some fn) :
    true = Tryd.pinned.checked.prog.looks [] ∧ ∀ (j : Nat) t, fn.params[j]? = some t → Tryd.pinned.checked.prog.wantsStandIn t = false := by
  obtain rfl : f = 4 := Option.some.inj ((show Tryd.prog.funcNamed "stillroom/stillroomlaw08.QuickRanges" = some 4 by kernel_rfl).symm.trans hf) |>.symm
  obtain rfl : fn = Tryd.f4 := (Option.some.inj (Tryd.func4.symm.trans hfn)).symm
  refine ⟨by kernel_rfl, fun j t ht => ?_⟩
  rw [Tryd.params4] at ht
  have ht := Array.mem_of_getElem? ht
  have all : ∀ t ∈ (#[35, 3, 3] : Array TypeId), Tryd.prog.wantsStandIn t = false := by
    intro t ht
    simp only [List.mem_toArray, List.mem_cons, List.not_mem_nil, or_false] at ht
    rcases ht with rfl | rfl | rfl <;> kernel_rfl
  exact all t ht
end Go.Proofs.YtfbhddllimfdlaaDoor.quickRangesRow
namespace Go.Proofs.YtfbhddllimfdlaaDoor
open Go.Proofs.YtfbhddllimfdlaaDoor.quickRangesRow in
/-- The law's card. -/
theorem quickRanges_holds : Rows.QuickRangesUptoCardSaid :=
  Claim7.holds_tied_plain_at .later [] _ _ _ _ saidUpto (fun _ h => by cases h) (by kernel_rfl) (fun _ h => by cases h) quickRangesUpto_row_tie rfl ⟨rfl, rfl⟩ (by kernel_rfl) rfl plain (by kernel_rfl)
end Go.Proofs.YtfbhddllimfdlaaDoor
