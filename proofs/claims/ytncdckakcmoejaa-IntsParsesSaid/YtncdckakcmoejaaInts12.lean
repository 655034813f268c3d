/- The law IntsOrders: the walk. -/
import Derived.Test.YtncdckakcmoejaaInts11
namespace Go.Proofs.Ytncdckakcmoejaa
set_option linter.unusedVariables false
set_option linter.unusedSimpArgs false
open Go.RowKit
theorem info_i64 : (Try.prog.info? 2).map (fun i => (i.zero, i.size, i.bytes)) = some (some (.int .i64 0), 1, 8) := by kernel_rfl
theorem ArgRow.congr {w : World} {a : Option Addr} {len cap : Nat} {f g : Nat → Value} (h : ArgRow w a len cap f) (e : ∀ i, i < len → f i = g i) : ArgRow w a len cap g := by
  refine ⟨h.1, h.2.imp id ?_⟩
  rintro ⟨b, o, e1, hc⟩
  exact ⟨b, o, e1, fun i hi => by rw [hc i hi, e i hi]⟩
def i64v (x : Int) : Value := .int .i64 x
set_option maxHeartbeats 6400000 in
set_option maxRecDepth 100000 in
theorem intsOrders_walk (a : Option Addr) (len cap : Nat) (zs : List Int) (t : Int) (w : World)
    (h0 : zs.length = len ∧ ArgRow w a len cap (fun i => .int .i64 (zs.getD i 0)) ∧ ∀ n ∈ zs, (Lit.int .i64 n).wf = true) (h1 : (Lit.int .u16 t).wf = true) :
    Calls Try.prog 6 #[.slice a len cap, .int .u16 t] w fun e w' => e = .returned (.bool true) ∧ Below w.heap.size w w' := by
  obtain ⟨hlen, harg, hwf⟩ := h0
  obtain ⟨ht0, ht1⟩ := bounds_u16 h1
  obtain ⟨t, rfl⟩ := Int.eq_ofNat_of_zero_le ht0
  have HAl := Lib.hid fun w => alive6_any w
  have HArg := Lib.hid harg
  have HL := Lib.hid hlen
  have HWf := Lib.hid hwf
  have hcl : len ≤ cap := harg.1
  obtain ⟨i0, hi, hz0, hz1, hz2⟩ := info_parts info_i64
  have HI := Lib.hid (And.intro hi (And.intro hz0 (And.intro hz1 hz2)))
  clear hlen harg hwf h1 hi hz0 hz1 hz2
  by_cases hlong : 400 < len
  · go_enter Try.func6, Try.ntmps6
    go_wp2_with fail
    refine (HAl.out _).mono ?_
    rintro e w1 ⟨rfl, b1⟩
    have B1 := Lib.hid b1
    clear b1
    go_wp2_with fail
    refine (HAl.out _).mono ?_
    rintro e w2 ⟨rfl, b2⟩
    have B2 := Lib.hid (B1.out.trans (b2.mono B1.out.size))
    clear b2
    go_wp2_with fail
    go_ret
    exact ⟨rfl, B2.out⟩
  · have hshort : len ≤ 400 := by omega
    have hd400 : decide (400 < (len : Int)) = false := by simp; omega
    go_enter Try.func6, Try.ntmps6
    go_wp2_with fail
    refine (HAl.out _).mono ?_
    rintro e w1 ⟨rfl, b1⟩
    have B1 := Lib.hid b1
    have HFi := Lib.hid (filled_any w1 a len cap zs HL.out (HArg.out.below b1) HWf.out hshort)
    clear b1
    go_wp2_with fail
    refine HFi.out.mono ?_
    rintro e w2 ⟨p, F, rfl, q1, q2, b2⟩
    have B2 := Lib.hid (B1.out.trans (b2.mono B1.out.size))
    have KF := Lib.hid (show ∀ k, F k → w.heap.size ≤ k from fun k hk => Nat.le_trans B1.out.size (q2 k hk))
    have Q1 := Lib.hid q1
    clear q1 q2 b2 HFi
    go_wp2_with fail
    go_loopw [6, 7] (fun v i wr => ∃ k : Nat, k ≤ len ∧ i = .int .i64 k ∧ Hid (SliceIs wr w2.heap.size 2 v k ((turned zs t k).map i64v) ∧ Below w2.heap.size w2 wr)) (fun _ i _ => len - (intOf i).toNat)
    case atStart => exact ⟨0, Nat.zero_le _, rfl, Lib.hid ⟨SliceIs.nil _ _ _, Below.refl _ _⟩⟩
    case round =>
      obtain ⟨k, hk, rfl, hI⟩ := hrel
      by_cases hlt : k < len
      · obtain ⟨b, o, ha, hc⟩ := HArg.out.2.resolve_left (by omega)
        subst ha
        obtain ⟨j, hj⟩ : ∃ j, j = (len - 1 - k + t) % len := ⟨_, rfl⟩
        have hjl : j < len := by rw [hj]; exact Nat.mod_lt _ (by omega)
        have hj1 : ((len : Int) - 1 - (k : Int) + (t : Int)) % (len : Int) = (j : Int) := by
          rw [hj, Int.natCast_emod]; congr 1; omega
        have hj2 : (0 : Int) ≤ (len : Int) - 1 - (k : Int) + (t : Int) := by omega
        have B3 := B2.out.trans (hI.out.2.mono B2.out.size)
        have hcell : wr.cell? ⟨b, o + j, none⟩ = some (.int .i64 (zs.getD j 0)) := by
          have := hc j hjl
          rw [B3.cell (World.block_lt_of_cell? w _ this)]; exact this
        obtain ⟨g1, g2, g3, g4⟩ := HI.out
        obtain ⟨v', w', hrun, hs, hb⟩ := run_append_one (P := Try.prog) (t := 29) (ty := 29) Try.underlying29 g1 g2 g3 g4 rfl hI.out.1 hI.out.2.size (.int .i64 (zs.getD j 0)) rfl (by unfold maxLen; omega) (by omega)
        have hts : (turned zs t k).map i64v ++ [.int .i64 (zs.getD j 0)] = (turned zs t (k + 1)).map i64v := by
          rw [turned_succ, HL.out, ← hj, List.map_append]; rfl
        rw [hts] at hs
        have HNw := Lib.hid (And.intro hs (hI.out.2.trans hb))
        have HR := Lib.hid hrun
        clear hs hb hts g1 g2 g3 g4 B3 hc hj hrun hI
        generalize zs.getD j 0 = x at *
        go_wp2_with (at_builtin; refine wpList_append_run rfl rfl HR.out ?_)
        go_roundw
        case rel => exact ⟨k + 1, by omega, by go_num, HNw⟩
        case measure => simp [intOf]; omega
      · have : k = len := by omega
        subst this
        have hs := hI.out.1
        have hb := hI.out.2
        obtain ⟨a6, cap6, hv6, harg6⟩ := hs.arg
        subst hv6
        have htl : (turned zs t k).length = k := turned_length zs t k
        have B3 := Lib.hid (B2.out.trans (hb.mono B2.out.size))
        have Q3 := Lib.hid (Q1.out.chg (Chg.of_below (fun _ => False) hb) fun _ _ => id)
        have Y3 := Lib.hid (bytesF Q3.out)
        have hsame := orders_same zs t
        rw [HL.out] at hsame
        have HFi := Lib.hid (filled_any wr a6 k cap6 (turned zs t k) htl (harg6.congr fun i hi => by simp [List.getD, htl, hi, i64v]) (fun n hn => HWf.out n ((mem_turned zs t n).1 (by rw [HL.out]; exact hn))) hshort)
        rw [hsame.1, hsame.2] at HFi
        have KP := Lib.hid (show ∀ j, F j → j < wr.heap.size from fun j hj => Q3.out.lt hj)
        clear hs hb harg6 htl hsame hI
        obtain ⟨L, hLd⟩ : ∃ L, L = insAll [] zs := ⟨_, rfl⟩
        obtain ⟨W, hWd⟩ : ∃ W, W = widthAll 2 zs := ⟨_, rfl⟩
        rw [← hLd, ← hWd] at Y3 Q3 HFi
        have HLd := Lib.hid hLd
        have hLl : L.length ≤ 400 ∧ L.length ≤ k := by have := insAll_length zs [] List.Pairwise.nil; rw [hLd]; have := HL.out; simp at *; omega
        obtain ⟨hLl1, hLl2⟩ := hLl
        clear hLd hWd Q1
        go_wp2_with fail
        refine Y3.out.mono ?_
        rintro e w' ⟨rfl, rfl⟩
        go_wp2_with fail
        refine HFi.out.mono ?_
        rintro e w4 ⟨p2, F2, rfl, q1, q2, b4⟩
        have B4 := Lib.hid (B3.out.trans (b4.mono B3.out.size))
        have Q4 := Lib.hid (Q3.out.chg (Chg.of_below (fun _ => False) b4) fun _ _ => id)
        have Y4 := Lib.hid (bytesF q1)
        clear q1 q2 b4 HFi
        generalize strOf (intsBytes L W) = st at *
        go_wp2_with fail
        refine Y4.out.mono ?_
        rintro e w' ⟨rfl, rfl⟩
        have HLo := Lib.hid (And.intro Q4.out B4.out)
        clear Q4 B4 Y4 Y3 Q3 B3
        go_wp2_with fail
        go_loopw [8] (fun i wr => ∃ k : Nat, k ≤ L.length ∧ i = .int .i64 k ∧ Hid (IntsF wr p F L W ∧ Below w.heap.size w wr)) (fun i _ => L.length - (intOf i).toNat)
        case atStart => exact ⟨0, Nat.zero_le _, rfl, HLo⟩
        case round =>
          obtain ⟨i, hi, rfl, hI⟩ := hrel
          by_cases hil : i < L.length
          · have HLn := Lib.hid (lenF hI.out.1)
            have HA1 := Lib.hid (AtF hI.out.1 (i : Int))
            rw [atVal, if_pos ⟨by omega, by omega⟩, Int.toNat_natCast] at HA1
            have HLs := Lib.hid hI.out.1.sorted
            go_wp2_with fail
            refine HLn.out.mono ?_
            rintro e w' ⟨rfl, rfl⟩
            go_wp2_with fail
            refine HA1.out.mono ?_
            rintro e w5 ⟨rfl, n5, rfl⟩
            have Q5 := Lib.hid (hI.out.1.chg (Chg.drewN (fun _ => False) wr n5) fun _ _ => id)
            have B5 := Lib.hid (belowN hI.out.2 n5)
            clear HA1 HLn hI
            generalize wr.drewN n5 = w5 at *
            have HA2 := Lib.hid (AtF Q5.out ((i : Int) + 1))
            have hmem : decide (L.getD i 0 ∈ L) = true := by simp [List.getD, hil]
            have HH := Lib.hid fun (w' : World) (h : IntsF w' p F L W) => hasF h (L.getD i 0)
            simp only [hmem] at HH
            rcases Nat.lt_or_ge (i + 1) L.length with hil2 | hil2
            all_goals
              rw [atVal] at HA2
              first
                | rw [if_pos ⟨by omega, by omega⟩, show ((i : Int) + 1).toNat = i + 1 by omega] at HA2
                | rw [if_neg (by omega)] at HA2
              have hlt1 : decide (((i : Int) + 1) < (L.length : Int)) = decide (i + 1 < L.length) := by rw [decide_eq_decide]; omega
              have hlt2 : i + 1 < L.length → decide (L.getD (i + 1) 0 ≤ L.getD i 0) = false := fun h => by
                have := List.pairwise_iff_getElem.1 HLs.out i (i + 1) (by omega) h (by omega)
                simp [List.getD, h, hil]; omega
              first
                | rw [decide_eq_true hil2] at hlt1
                | rw [decide_eq_false (show ¬ i + 1 < L.length by omega)] at hlt1
              first
                | (have hlt3 := hlt2 hil2; clear hlt2)
                | (have hlt3 := trivial; clear hlt2)
              have HLn5 := Lib.hid fun n => lenF (Q5.out.chg (Chg.drewN (fun _ => False) w5 n) fun _ _ => id)
              have HH5 := Lib.hid fun n => HH.out _ (Q5.out.chg (Chg.drewN (fun _ => False) w5 n) fun _ _ => id)
              clear HH hmem
              generalize L.getD i 0 = x at *
              try generalize L.getD (i + 1) 0 = y at *
              go_wp2_with fail
              refine HA2.out.mono ?_
              rintro e w6 ⟨rfl, n6, rfl⟩
              go_wp2_with fail
              refine (HH5.out n6).mono ?_
              rintro e w7 ⟨rfl, c7⟩
              have c57 := (Chg.drewN (fun _ => False) w5 n6).trans c7 fun _ h _ => h
              have Q7 := Lib.hid (Q5.out.chg c57 fun _ _ => id)
              have B7 := Lib.hid (belowChg B5.out c57 B5.out.size fun _ h _ => h.elim)
              have HLn7 := Lib.hid (lenF Q7.out)
              have HNw := Lib.hid (And.intro Q7.out B7.out)
              clear c7 c57 HH5 HLn5 Q5 B5 HA2
              go_wp2_with fail
              refine HLn7.out.mono ?_
              rintro e w' ⟨rfl, rfl⟩
              go_wp2_with fail
              go_roundw
              case rel => exact ⟨i + 1, by omega, by go_num, HNw⟩
              case measure => simp [intOf]; omega
          · have : i = L.length := by omega
            subst this
            have HLn := Lib.hid (lenF hI.out.1)
            have HLo2 := Lib.hid hI.out
            go_wp2_with fail
            refine HLn.out.mono ?_
            rintro e w' ⟨rfl, rfl⟩
            clear HLo hI HLn
            go_wp2_with fail
            go_loopw [13] (fun i wr => ∃ j : Nat, ∃ F : Nat → Prop, j ≤ k ∧ i = .int .i64 j ∧ Hid (∀ i, F i → w.heap.size ≤ i) ∧ Hid (IntsF wr p F L W ∧ Below w.heap.size w wr)) (fun i _ => k - (intOf i).toNat)
            case atStart => exact ⟨0, F, Nat.zero_le _, rfl, KF, HLo2⟩
            case round =>
              clear KF HLo2
              obtain ⟨j, F, hj, rfl, KF, hI⟩ := hrel
              by_cases hlt : j < k
              · obtain ⟨b, o, ha, hc⟩ := HArg.out.2.resolve_left (by omega)
                subst ha
                have hcell : wr.cell? ⟨b, o + j, none⟩ = some (.int .i64 (zs.getD j 0)) := by
                  have := hc j hlt
                  rw [hI.out.2.cell (World.block_lt_of_cell? w _ this)]; exact this
                have hbw : b < w.heap.size := World.block_lt_of_cell? w _ (hc j hlt)
                have hz : zs.getD j 0 ∈ zs := by simp [List.getD, show j < zs.length by have := HL.out; omega]
                have hzL : zs.getD j 0 ∈ L := by
                  rw [HLd.out, mem_insAll]; exact .inr hz
                have hbd := bounds_i64 (HWf.out _ hz)
                have hwx : max W (wantsN (zs.getD j 0)) = W := Nat.max_eq_left ((fits_wants _ hbd W hI.out.1.width).1 (hI.out.1.fits _ hzL))
                have hins := ins_mem hI.out.1.sorted hzL
                have HHk := Lib.hid (hasF hI.out.1 (zs.getD j 0))
                rw [decide_eq_true hzL] at HHk
                have HA := Lib.hid fun w' (h : IntsF w' p F L W) => addF h (zs.getD j 0) hbd (by omega)
                rw [hins, hwx, show decide (zs.getD j 0 ∉ L) = false by simpa using hzL] at HA
                clear hz hzL hbd hwx hins
                have HC := Lib.hid hcell
                generalize zs.getD j 0 = x at *
                go_wp2_with fail
                refine HHk.out.mono ?_
                rintro e w8 ⟨rfl, c8⟩
                have hcell8 : w8.cell? ⟨b, o + j, none⟩ = some (.int .i64 x) := by
                  rw [World.cell?_of_block (c8.block b (World.block_lt_of_cell? wr _ HC.out) id)]; exact HC.out
                have Q8 := Lib.hid (hI.out.1.chg c8 fun _ _ => id)
                have B8 := Lib.hid (belowChg hI.out.2 c8 hI.out.2.size fun _ h _ => h.elim)
                have HA8 := Lib.hid (HA.out w8 Q8.out)
                clear c8 HA HHk hI hcell
                go_wp2_with fail
                refine HA8.out.mono ?_
                rintro e w9 ⟨rfl, F9, q9, k9, c9⟩
                have B9 := belowChg B8.out c9 B8.out.size fun i hi _ => KF.out i hi
                have KF9 := Lib.hid (show ∀ i, F9 i → w.heap.size ≤ i from fun i hi => (k9 i hi).elim (KF.out i) fun h => Nat.le_trans B8.out.size h)
                have HNw := Lib.hid (And.intro q9 B9)
                clear q9 B9 c9 k9 HA8 Q8 B8 HC hcell8 KF
                go_wp2_with fail
                go_roundw
                case rel => exact ⟨j + 1, F9, by omega, by go_num, KF9, HNw⟩
                case measure => simp [intOf]; omega
              · have : j = k := by omega
                subst this
                have HLn := Lib.hid (lenF hI.out.1)
                have hle : decide ((L.length : Int) ≤ (j : Int)) = true := by simp; omega
                go_wp2_with fail
                refine HLn.out.mono ?_
                rintro e w' ⟨rfl, rfl⟩
                go_wp2_with fail
                go_ret
                exact ⟨rfl, hI.out.2⟩
end Go.Proofs.Ytncdckakcmoejaa
