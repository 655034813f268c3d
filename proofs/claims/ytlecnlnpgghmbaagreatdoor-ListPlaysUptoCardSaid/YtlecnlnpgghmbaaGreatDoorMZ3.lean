/- Lemmas and walks for ListPlays, part 3 of 5: the texts Qck17, PckE, Qck14, Qck8, Qck9, Qck13, Lst1, Qcl1, Qcl2, Qcl3, Opt, Opq, Qcl5, Lst2, Lst3, Lst4, Lst5, Lst6, Lst7, Lst8, Lst9, Lst10, Lst11, Lst12, Lst13, Lst14, Lst15, Lst16. -/
import Derived.Test.YtlecnlnpgghmbaaGreatDoorMZ2
import Derived.WalkMore
import Derived.ScopeJumps
import Derived.Lib.ItoaWalk
import Derived.Test.YtlecnlnpgghmbaaGreatDoorRows
import Derived.Test.YtlecnlnpgghmbaaGreatDoorMZ1
import Derived.ChangeSame
import Derived.Lib.SmallJoins
/- quick: Delete. -/
namespace Go.Proofs.YtlecnlnpgghmbaaGreatDoor
set_option linter.unusedVariables false
set_option linter.unusedSimpArgs false
open Go.RowKit
set_option maxHeartbeats 6400000 in
set_option maxRecDepth 100000 in
theorem quickDelete {w0 w : World} (hl : Laid w0) (hb0 : Below w0.heap.size w0 w) (hN : w0.heap.size ≤ w.heap.size) {q : Nat} {F : Nat → Prop} {L : List ByteArray} (h : QuickF w q F L) (kF : ∀ k, F k → w0.heap.size ≤ k) (hn : L.length ≤ 1000000000) (a d : Int) (ha : -9223372036854775808 ≤ a ∧ a ≤ 9223372036854775807) (hd : -9223372036854775808 ≤ d ∧ d ≤ 9223372036854775807) :
    Calls Tryz.prog 168 #[pv q, .int .i64 a, .int .i64 d] w fun e w' => e = .returned (.int .i64 (delP L a d).1) ∧ (∃ F', QuickF w' q F' (delP L a d).2 ∧ Fresh w F F') ∧ Chg F w w' := by
  have hF0 := h
  obtain ⟨Ns, h1, h2, h3, h4⟩ := h
  have q0 : w.cell? ⟨q, 0, none⟩ = some (.bool true) := cell_in h1.head (i := 0) rfl
  have q3 : w.cell? ⟨q, 3, none⟩ = some (.int .i64 (L.length : Nat)) := cell_in h1.head (i := 3) rfl
  have f3 := frozen_in h1.head 3
  have HS := Lib.hid (show (∃ F', QuickF w q F' L ∧ Fresh w F F') ∧ Chg F w w from ⟨⟨F, hF0, fun k hk => .inl hk⟩, Chg.refl _ _⟩)
  clear hF0
  by_cases c1 : a < 0 ∨ (L.length : Int) < a ∨ d < 0 ∨ (L.length : Int) - a < d
  · have hv : delP L a d = (1, L) := by unfold delP; rw [if_pos c1]
    rw [hv]
    clear hv h1 h2 h3 h4 hl hb0 kF
    generalize L.length = n at *
    by_cases c2 : a < 0
    · have d1 : decide (a < 0) = true := decide_eq_true c2
      clear c1 c2
      go_enter Tryz.func168, Tryz.ntmps168
      go_wp2_with fail
      go_step3
      go_wp2_with fail
      rw [Exit.noGoto_ret]; go_ret
      exact ⟨rfl, HS.out⟩
    · have d1 : decide (a < 0) = false := decide_eq_false c2
      by_cases c3 : (n : Int) < a
      · have d2 : decide ((n : Int) < a) = true := decide_eq_true c3
        clear c1 c2 c3
        go_enter Tryz.func168, Tryz.ntmps168
        go_wp2_with fail
        go_step3
        go_wp2_with fail
        rw [Exit.noGoto_ret]; go_ret
        exact ⟨rfl, HS.out⟩
      · have d2 : decide ((n : Int) < a) = false := decide_eq_false c3
        by_cases c4 : d < 0
        · have d3 : decide (d < 0) = true := decide_eq_true c4
          clear c1 c2 c3 c4
          go_enter Tryz.func168, Tryz.ntmps168
          go_wp2_with fail
          go_step3
          go_wp2_with fail
          rw [Exit.noGoto_ret]; go_ret
          exact ⟨rfl, HS.out⟩
        · have d3 : decide (d < 0) = false := decide_eq_false c4
          have d4 : decide ((n : Int) - a < d) = true := decide_eq_true (by omega)
          have hw : 0 ≤ a ∧ a ≤ (n : Int) := by omega
          clear c1 c2 c3 c4
          go_enter Tryz.func168, Tryz.ntmps168
          go_wp2_with fail
          go_step3
          go_wp2_with fail
          rw [Exit.noGoto_ret]; go_ret
          exact ⟨rfl, HS.out⟩
  · obtain ⟨m, rfl⟩ : ∃ m : Nat, a = (m : Int) := ⟨a.toNat, by omega⟩
    obtain ⟨r, rfl⟩ : ∃ r : Nat, d = (r : Int) := ⟨d.toNat, by omega⟩
    have hmr : m + r ≤ L.length := by omega
    have hv : delP L m r = (0, L.take m ++ L.drop (m + r)) := delP_ok hmr
    rw [hv]
    have d1 : decide ((m : Int) < 0) = false := decide_eq_false (by omega)
    have d2 : decide ((L.length : Int) < (m : Int)) = false := decide_eq_false (by omega)
    have d2' : decide (L.length < m) = false := decide_eq_false (by omega)
    have d3 : decide ((r : Int) < 0) = false := decide_eq_false (by omega)
    have d4 : decide ((L.length : Int) - (m : Int) < (r : Int)) = false := decide_eq_false (by omega)
    by_cases hr0 : r = 0
    · subst hr0
      rw [Nat.add_zero, List.take_append_drop]
      clear hv h1 h2 h3 h4 hl hb0 kF c1
      generalize L.length = n at *
      go_enter Tryz.func168, Tryz.ntmps168
      go_wp2_with fail
      go_step3
      go_wp2_with fail
      rw [Exit.noGoto_ret]; go_ret
      exact ⟨rfl, HS.out⟩
    · have d5 : ((r : Int) == 0) = false := by rw [beq_eq_false_iff_ne]; omega
      obtain ⟨G, hG⟩ : ∃ G, L.take m ++ L.drop (m + r) = G := ⟨_, rfl⟩
      rw [hG]
      have hGl : G.length = L.length - r := by rw [← hG, List.length_append, List.length_take, List.length_drop]; omega
      have hfn : (flatN Ns).length = L.length := by rw [h3]
      obtain ⟨N, hNN⟩ : ∃ N : Int, (L.length : Int) - (r : Int) = N := ⟨_, rfl⟩
      have H := Lib.hid (And.intro hl (And.intro hb0 (And.intro hN (And.intro (show ∀ k, foot q Ns k → w0.heap.size ≤ k from fun k hk => kF k ((h4 k).2 hk)) (And.intro h4 (And.intro hGl hNN))))))
      have HBl := Lib.hid (show ∀ W, Chg (foot q Ns) w W → Below w0.heap.size w0 W from fun W hc => belowChg H.out.2.1 hc H.out.2.2.1 fun k hk _ => H.out.2.2.2.1 k hk)
      have HFt := Lib.hid (show ∀ Ms W, DoneI w q Ns G N Ms W → ∀ k, foot q Ms k → w0.heap.size ≤ k from fun Ms W hD k hk => (hD.ft k hk).elim (H.out.2.2.2.1 k) fun h => Nat.le_trans H.out.2.2.1 h)
      have HEnd := Lib.hid (show ∀ W Ms, DoneI w q Ns G N Ms W → (∃ F', QuickF W q F' G ∧ Fresh w F F') ∧ Chg F w W from fun W Ms hD => by
        refine ⟨⟨foot q Ms, ⟨Ms, ?_, hD.good, hD.flat, fun k => Iff.rfl⟩, fun k hk => (hD.ft k hk).imp (fun h => (h4 k).2 h) id⟩, hD.chg.mono fun k hk _ => (h4 k).2 hk⟩
        have : ((G.length : Nat) : Int) = N := by rw [hGl, ← hNN]; omega
        rw [this]
        exact hD.row)
      have HFd := Lib.hid (find_any h1 (m + 1) (by omega) (by omega))
      rw [show ((m + 1 : Nat) : Int) = (m : Int) + 1 by omega] at HFd
      have HQ0 := Lib.hid (And.intro h1 (And.intro h2 (And.intro h3 (And.intro hfn hG))))
      clear hl hb0 hN kF h1 h2 h3 h4 hv c1 HS hGl hfn hG
      rw [← HQ0.out.2.2.2.1] at hmr hn
      obtain ⟨n, hnn⟩ : ∃ n, L.length = n := ⟨_, rfl⟩
      rw [HQ0.out.2.2.2.1, hnn] at hmr hn
      have hnb : n ≤ 1000000000 := by omega
      rw [hnn] at d2 d2' d4 q3 hNN
      have HNn := Lib.hid hnn
      clear hn hnn
      go_enter Tryz.func168, Tryz.ntmps168
      go_wp2_with fail
      go_step3
      go_wp2_with fail
      refine HFd.out.mono ?_
      rintro e w1 ⟨⟨hnil, _⟩ | ⟨A, nd, B, pl, hat, rfl⟩, b1⟩
      · exfalso
        have := HQ0.out.2.2.2.1
        rw [hnil, HNn.out] at this
        simp at this
        omega
      · have hq1 := HQ0.out.1.below b1
        have y3 : w1.cell? ⟨q, 3, none⟩ = some (.int .i64 n) := by rw [← HNn.out]; exact cell_in hq1.head (i := 3) rfl
        have yf := frozen_in hq1.head 3
        have hpl := hat.pos (by omega)
        have hle := hat.le
        have h32 : nd.T.length ≤ 32 := (HQ0.out.2.1 nd (by rw [hat.eq]; simp)).2
        have hpb : pl ≤ 32 := by omega
        obtain ⟨w2, hw2⟩ : ∃ w2, w2 = w1.setCell ⟨q, 3, none⟩ (.int .i64 N) := ⟨_, rfl⟩
        obtain ⟨i0, hi0⟩ : ∃ i0, pl = i0 + 1 := ⟨pl - 1, by omega⟩
        have HD := Lib.hid (show DelI w q Ns G N A nd B i0 r w2 from by
          have hc : Chg (foot q Ns) w w2 := by rw [hw2]; exact (Chg.of_below (foot q Ns) b1).trans (Chg.setCell (fun k => k = q) w1 ⟨q, 3, none⟩ _ rfl) fun k hk _ => .inl hk
          have hlen := HQ0.out.2.2.2.1
          rw [HNn.out, hat.flat, List.length_append, List.length_append] at hlen
          have hsum := hat.sum
          refine ⟨?_, hat.eq ▸ HQ0.out.2.1, by omega, by omega, by omega, ?_, fun k hk => .inl (by rw [hat.eq]; exact hk), hc⟩
          · rw [← hat.eq, hw2]; exact hq1.setN _
          · rw [← HQ0.out.2.2.2.2, ← HQ0.out.2.2.1]
            have e1 : (flatN Ns).take m = flatN A ++ nd.T.take i0 := by
              rw [hat.flat, show m = (flatN A).length + i0 by omega, List.append_assoc, List.take_length_add_append, List.take_append_of_le_length (by omega)]
            have e2 : (flatN Ns).drop m = nd.T.drop i0 ++ flatN B := by
              rw [hat.flat, show m = (flatN A).length + i0 by omega, List.append_assoc, List.drop_length_add_append, List.drop_append_of_le_length (by omega)]
            rw [e1, ← List.drop_drop, e2])
        subst hi0
        have HW2 := Lib.hid hw2
        clear hq1 hat b1 hw2 hle hpl h32 HFd
        rw [show ((i0 + 1 : Nat) : Int) = (i0 : Int) + 1 by omega]
        go_wp2_with fail
        rw [← HW2.out]
        go_step3
        go_wp2_with fail
        go_loopw [2, 7, 8, 9, 10] (fun nv xv iv kv nx wr => ∃ (A : List Nd) (nd : Nd) (B : List Nd) (i r1 : Nat), nv = .int .i64 r1 ∧ xv = pv nd.x ∧ iv = .int .i64 i ∧ i ≤ 32 ∧ r1 ≤ 1000000000 ∧ Hid (DelI w q Ns G N A nd B i r1 wr)) (fun nv _ _ _ _ _ => (intOf nv).toNat)
        case atStart => exact ⟨A, nd, B, i0, r, rfl, rfl, rfl, by omega, by omega, HD⟩
        case round =>
          clear HD
          obtain ⟨A, nd, B, i, r1, rfl, rfl, rfl, hi32, hr1, hI⟩ := hrel
          have hrow := hI.out.row
          have xn := cell_in hrow.node (i := 0) rfl
          have hpk := hrow.packs nd (by simp)
          have HL := Lib.hid (packLen hpk)
          have hilt := hI.out.ilt
          have hrp := hI.out.rpos
          have h32 : nd.T.length ≤ 32 := (hI.out.good nd (by simp)).2
          obtain ⟨nT, hnT⟩ : ∃ nT, nd.T.length = nT := ⟨_, rfl⟩
          by_cases c : r1 ≤ nT - i
          · have hmin : min (r1 : Int) ((nT : Int) - (i : Int)) = (r1 : Int) := by omega
            have HDe := Lib.hid (packDelete hpk (H.out.1.below (HBl.out _ hI.out.chg)) (i : Int) (r1 : Int) (by omega) (by omega))
            rw [delP_ok (by rw [hnT]; omega)] at HDe
            rw [hnT] at HL hilt h32
            have HT := Lib.hid hnT
            clear hrow hpk hnT
            obtain ⟨z, hz⟩ : ∃ z, nT - r1 = z := ⟨_, rfl⟩
            have HZ := Lib.hid hz
            go_wp2_with fail
            refine HL.out.mono ?_
            rintro e w' ⟨rfl, rfl⟩
            go_wp2_with fail
            refine HDe.out.mono ?_
            rintro e w5 ⟨rfl, ⟨F5, p5, f5⟩, c5⟩
            obtain ⟨u1, u2, u3⟩ := hI.out.cut c5 p5 f5
            have xn5 := cell_in u1.node (i := 0) rfl
            have x25 : w5.cell? ⟨nd.x, 2, none⟩ = some (ptrO (hdO B none)) := cell_in u1.node (i := 2) rfl
            have HL5 := Lib.hid (packLen p5)
            rw [show (nd.T.take i ++ nd.T.drop (i + r1)).length = z by rw [List.length_append, List.length_take, List.length_drop, HT.out]; omega] at HL5
            have HU := Lib.hid (unlink_any u1)
            have HC := Lib.hid (And.intro c5 (And.intro p5 f5))
            clear u1 u2 u3 c5 p5 f5 HDe hz
            by_cases hz0 : z = 0
            · have dz : ((z : Int) == 0) = true := by rw [beq_iff_eq]; omega
              go_wp2_with fail
              refine HL5.out.mono ?_
              rintro e w' ⟨rfl, rfl⟩
              go_wp2_with fail
              refine HU.out.mono ?_
              rintro e w6 ⟨⟨v6, rfl⟩, q6, ch6⟩
              have HD := Lib.hid (hI.out.lastGone (by rw [HT.out]; exact c) (by rw [HT.out]; have := HZ.out; omega) HC.out.1 HC.out.2.1 HC.out.2.2 q6 ch6)
              clear q6 ch6 HU HL5 HC hI dz hz0 xn xn5 x25 HL hmin
              go_wp2_with fail
              have HFd2 := Lib.hid (find_any HD.out.row m (by rw [HD.out.flat, H.out.2.2.2.2.2.1, HNn.out]; omega) (by omega))
              refine HFd2.out.mono ?_
              rintro e w8 ⟨⟨hnil, rfl⟩ | ⟨A8, nd8, B8, pl8, hat8, rfl⟩, b8⟩
              · have HD8 := Lib.hid (HD.out.below b8)
                clear hnil b8 HFd2 HD
                go_wp2_with fail
                go_loopw [112] (fun _ wr => ∃ Ms, Hid (DoneI w q Ns G N Ms wr)) (fun _ _ => 0)
                case atStart => exact ⟨_, HD8⟩
                case round =>
                  obtain ⟨Ms, hI⟩ := hrel
                  have HJ := Lib.hid (join_nil (w := wr) q)
                  go_wp2_with fail
                  refine HJ.out.mono ?_
                  rintro e w9 ⟨rfl, b9⟩
                  have HD9 := Lib.hid (hI.out.below b9)
                  clear b9 HJ hI
                  go_wp2_with fail
                  go_loopw [11, 13] (fun y x wr => y = .pointer none ∧ ∃ Ms, Hid (DoneI w q Ns G N Ms wr)) (fun _ _ _ => 0)
                  case atStart => exact ⟨rfl, _, HD9⟩
                  case round =>
                    obtain ⟨rfl, Ms, hI⟩ := hrel
                    go_wp2_with fail
                    rw [Exit.noGoto_ret]; go_ret
                    exact ⟨rfl, HEnd.out _ _ hI.out⟩
              · have HD8 := Lib.hid (hat8.eq ▸ HD.out.below b8)
                clear hat8 b8 HFd2 HD
                go_wp2_with fail
                go_loopw [112] (fun _ wr => ∃ (A : List Nd) (nd : Nd) (B : List Nd), nd.x = nd8.x ∧ Hid (DoneI w q Ns G N (A ++ nd :: B) wr)) (fun _ wr => lenQ wr q)
                case atStart => exact ⟨_, _, _, rfl, HD8⟩
                case round =>
                  obtain ⟨A, nd, B, hx8, hI⟩ := hrel
                  have HX8 := Lib.hid hx8
                  clear hx8
                  have HJ := Lib.hid (join_node H.out.1 (HBl.out _ hI.out.chg) (Nat.le_trans H.out.2.2.1 hI.out.chg.size) hI.out.row (fun k hk => HFt.out _ _ hI.out k hk) hI.out.good)
                  rw [HX8.out] at HJ
                  go_wp2_with fail
                  refine HJ.out.mono ?_
                  rintro e w9 ⟨b, rfl, ⟨rfl, b9⟩ | ⟨rfl, v, B', F', hBv, h16, hq9, f9, c9⟩⟩
                  · have HD9 := Lib.hid (hI.out.below b9)
                    clear b9 HJ hI
                    go_wp2_with fail
                    go_loopw [11, 13] (fun y x wr => ∃ A nd B, y = pv nd.x ∧ Hid (DoneI w q Ns G N (A ++ nd :: B) wr)) (fun _ _ wr => lenQ wr q)
                    case atStart => exact ⟨_, _, _, by rw [HX8.out], HD9⟩
                    case round =>
                      obtain ⟨A, nd, B, rfl, hI⟩ := hrel
                      have x1 := cell_in hI.out.row.node (i := 1) rfl
                      rcases List.eq_nil_or_concat A with rfl | ⟨A', u, hA⟩
                      · have HJ := Lib.hid (fun w' => join_nil (w := w') q)
                        rw [show ptrO (lstO none []) = .pointer none from rfl] at x1
                        go_wp2_with fail
                        refine (HJ.out _).mono ?_
                        rintro e w10 ⟨rfl, b10⟩
                        have HD10 := Lib.hid (hI.out.below b10)
                        clear b10 HJ hI x1
                        go_wp2_with fail
                        rw [Exit.noGoto_ret]; go_ret
                        exact ⟨rfl, HEnd.out _ _ HD10.out⟩
                      · rw [List.concat_eq_append] at hA
                        subst hA
                        clear x1
                        have hI2 : DoneI w q Ns G N (A' ++ u :: nd :: B) wr := by have := hI.out; simpa using this
                        have x1 : wr.cell? ⟨nd.x, 1, none⟩ = some (pv u.x) := by
                          have := hI.out.row.node
                          rw [lstO_last] at this
                          exact cell_in this (i := 1) rfl
                        have HI2 := Lib.hid hI2
                        have HJ := Lib.hid (join_node H.out.1 (HBl.out _ hI2.chg) (Nat.le_trans H.out.2.2.1 hI2.chg.size) hI2.row (fun k hk => HFt.out _ _ hI2 k hk) hI2.good)
                        clear hI2 hI
                        go_wp2_with fail
                        refine HJ.out.mono ?_
                        rintro e w10 ⟨b, rfl, ⟨rfl, b10⟩ | ⟨rfl, v, B', F', hBv, h16, hq10, f10, c10⟩⟩
                        · have HD10 := Lib.hid (HI2.out.below b10)
                          clear b10 HJ x1 HI2
                          go_wp2_with fail
                          rw [Exit.noGoto_ret]; go_ret
                          exact ⟨rfl, HEnd.out _ _ HD10.out⟩
                        · obtain ⟨rfl, rfl⟩ := List.cons.inj hBv
                          have HD10 := Lib.hid (HI2.out.join h16 hq10 f10 c10)
                          have HM := Lib.hid (show lenQ w10 q < lenQ wr q by
                            rw [lenQ_eq hq10, lenQ_eq HI2.out.row]
                            simp only [List.length_append, List.length_cons]; omega)
                          clear h16 hq10 f10 c10 HJ x1 HI2 hBv
                          go_wp2_with fail
                          go_roundw
                          case rel => exact ⟨A', ⟨u.x, u.p, F', _⟩, _, rfl, HD10⟩
                          case measure => exact HM.out
                  · subst hBv
                    rw [← HX8.out] at hq9
                    have HD9 := Lib.hid (hI.out.join h16 hq9 f9 c9)
                    have HM := Lib.hid (show lenQ w9 q < lenQ wr q by
                      rw [lenQ_eq hq9, lenQ_eq hI.out.row]
                      simp only [List.length_append, List.length_cons]; omega)
                    clear h16 hq9 f9 c9 HJ hI
                    go_wp2_with fail
                    go_roundw
                    case rel => exact ⟨A, ⟨nd.x, nd.p, F', nd.T ++ v.T⟩, B', HX8.out, HD9⟩
                    case measure => exact HM.out
            · have dz : ((z : Int) == 0) = false := by rw [beq_eq_false_iff_ne]; omega
              have HD := Lib.hid (hI.out.last (by rw [HT.out]; exact c) HC.out.1 HC.out.2.1 HC.out.2.2 (by rw [HT.out]; have := HZ.out; omega))
              go_wp2_with fail
              refine HL5.out.mono ?_
              rintro e w' ⟨rfl, rfl⟩
              clear HU HL5 HC hI hz0 xn xn5 x25 HL hmin
              go_wp2_with fail
              have HFd2 := Lib.hid (find_any HD.out.row m (by rw [HD.out.flat, H.out.2.2.2.2.2.1, HNn.out]; omega) (by omega))
              refine HFd2.out.mono ?_
              rintro e w8 ⟨⟨hnil, rfl⟩ | ⟨A8, nd8, B8, pl8, hat8, rfl⟩, b8⟩
              · have HD8 := Lib.hid (HD.out.below b8)
                clear hnil b8 HFd2 HD
                go_wp2_with fail
                go_loopw [112] (fun _ wr => ∃ Ms, Hid (DoneI w q Ns G N Ms wr)) (fun _ _ => 0)
                case atStart => exact ⟨_, HD8⟩
                case round =>
                  obtain ⟨Ms, hI⟩ := hrel
                  have HJ := Lib.hid (join_nil (w := wr) q)
                  go_wp2_with fail
                  refine HJ.out.mono ?_
                  rintro e w9 ⟨rfl, b9⟩
                  have HD9 := Lib.hid (hI.out.below b9)
                  clear b9 HJ hI
                  go_wp2_with fail
                  go_loopw [11, 13] (fun y x wr => y = .pointer none ∧ ∃ Ms, Hid (DoneI w q Ns G N Ms wr)) (fun _ _ _ => 0)
                  case atStart => exact ⟨rfl, _, HD9⟩
                  case round =>
                    obtain ⟨rfl, Ms, hI⟩ := hrel
                    go_wp2_with fail
                    rw [Exit.noGoto_ret]; go_ret
                    exact ⟨rfl, HEnd.out _ _ hI.out⟩
              · have HD8 := Lib.hid (hat8.eq ▸ HD.out.below b8)
                clear hat8 b8 HFd2 HD
                go_wp2_with fail
                go_loopw [112] (fun _ wr => ∃ (A : List Nd) (nd : Nd) (B : List Nd), nd.x = nd8.x ∧ Hid (DoneI w q Ns G N (A ++ nd :: B) wr)) (fun _ wr => lenQ wr q)
                case atStart => exact ⟨_, _, _, rfl, HD8⟩
                case round =>
                  obtain ⟨A, nd, B, hx8, hI⟩ := hrel
                  have HX8 := Lib.hid hx8
                  clear hx8
                  have HJ := Lib.hid (join_node H.out.1 (HBl.out _ hI.out.chg) (Nat.le_trans H.out.2.2.1 hI.out.chg.size) hI.out.row (fun k hk => HFt.out _ _ hI.out k hk) hI.out.good)
                  rw [HX8.out] at HJ
                  go_wp2_with fail
                  refine HJ.out.mono ?_
                  rintro e w9 ⟨b, rfl, ⟨rfl, b9⟩ | ⟨rfl, v, B', F', hBv, h16, hq9, f9, c9⟩⟩
                  · have HD9 := Lib.hid (hI.out.below b9)
                    clear b9 HJ hI
                    go_wp2_with fail
                    go_loopw [11, 13] (fun y x wr => ∃ A nd B, y = pv nd.x ∧ Hid (DoneI w q Ns G N (A ++ nd :: B) wr)) (fun _ _ wr => lenQ wr q)
                    case atStart => exact ⟨_, _, _, by rw [HX8.out], HD9⟩
                    case round =>
                      obtain ⟨A, nd, B, rfl, hI⟩ := hrel
                      have x1 := cell_in hI.out.row.node (i := 1) rfl
                      rcases List.eq_nil_or_concat A with rfl | ⟨A', u, hA⟩
                      · have HJ := Lib.hid (fun w' => join_nil (w := w') q)
                        rw [show ptrO (lstO none []) = .pointer none from rfl] at x1
                        go_wp2_with fail
                        refine (HJ.out _).mono ?_
                        rintro e w10 ⟨rfl, b10⟩
                        have HD10 := Lib.hid (hI.out.below b10)
                        clear b10 HJ hI x1
                        go_wp2_with fail
                        rw [Exit.noGoto_ret]; go_ret
                        exact ⟨rfl, HEnd.out _ _ HD10.out⟩
                      · rw [List.concat_eq_append] at hA
                        subst hA
                        clear x1
                        have hI2 : DoneI w q Ns G N (A' ++ u :: nd :: B) wr := by have := hI.out; simpa using this
                        have x1 : wr.cell? ⟨nd.x, 1, none⟩ = some (pv u.x) := by
                          have := hI.out.row.node
                          rw [lstO_last] at this
                          exact cell_in this (i := 1) rfl
                        have HI2 := Lib.hid hI2
                        have HJ := Lib.hid (join_node H.out.1 (HBl.out _ hI2.chg) (Nat.le_trans H.out.2.2.1 hI2.chg.size) hI2.row (fun k hk => HFt.out _ _ hI2 k hk) hI2.good)
                        clear hI2 hI
                        go_wp2_with fail
                        refine HJ.out.mono ?_
                        rintro e w10 ⟨b, rfl, ⟨rfl, b10⟩ | ⟨rfl, v, B', F', hBv, h16, hq10, f10, c10⟩⟩
                        · have HD10 := Lib.hid (HI2.out.below b10)
                          clear b10 HJ x1 HI2
                          go_wp2_with fail
                          rw [Exit.noGoto_ret]; go_ret
                          exact ⟨rfl, HEnd.out _ _ HD10.out⟩
                        · obtain ⟨rfl, rfl⟩ := List.cons.inj hBv
                          have HD10 := Lib.hid (HI2.out.join h16 hq10 f10 c10)
                          have HM := Lib.hid (show lenQ w10 q < lenQ wr q by
                            rw [lenQ_eq hq10, lenQ_eq HI2.out.row]
                            simp only [List.length_append, List.length_cons]; omega)
                          clear h16 hq10 f10 c10 HJ x1 HI2 hBv
                          go_wp2_with fail
                          go_roundw
                          case rel => exact ⟨A', ⟨u.x, u.p, F', _⟩, _, rfl, HD10⟩
                          case measure => exact HM.out
                  · subst hBv
                    rw [← HX8.out] at hq9
                    have HD9 := Lib.hid (hI.out.join h16 hq9 f9 c9)
                    have HM := Lib.hid (show lenQ w9 q < lenQ wr q by
                      rw [lenQ_eq hq9, lenQ_eq hI.out.row]
                      simp only [List.length_append, List.length_cons]; omega)
                    clear h16 hq9 f9 c9 HJ hI
                    go_wp2_with fail
                    go_roundw
                    case rel => exact ⟨A, ⟨nd.x, nd.p, F', nd.T ++ v.T⟩, B', HX8.out, HD9⟩
                    case measure => exact HM.out
          · obtain ⟨k, hk⟩ : ∃ k, nT - i = k := ⟨_, rfl⟩
            have hmin : min (r1 : Int) ((nT : Int) - (i : Int)) = (k : Int) := by omega
            have HDe := Lib.hid (packDelete hpk (H.out.1.below (HBl.out _ hI.out.chg)) (i : Int) (k : Int) (by omega) (by omega))
            rw [delP_ok (by rw [hnT]; omega)] at HDe
            have hrl := hI.out.rle
            rw [hnT] at HL hilt h32 hrl
            have HT := Lib.hid (And.intro hnT hk)
            have hkp : 1 ≤ k ∧ k < r1 ∧ k ≤ nT := by omega
            have dk : ((r1 : Int) - (k : Int) == 0) = false := by rw [beq_eq_false_iff_ne]; omega
            cases B with
            | nil => simp at hrl; omega
            | cons v B =>
              clear hrow hpk hnT hrl c hk
              obtain ⟨z, hz⟩ : ∃ z, nT - k = z := ⟨_, rfl⟩
              have HZ := Lib.hid hz
              go_wp2_with fail
              refine HL.out.mono ?_
              rintro e w' ⟨rfl, rfl⟩
              go_wp2_with fail
              refine HDe.out.mono ?_
              rintro e w5 ⟨rfl, ⟨F5, p5, f5⟩, c5⟩
              obtain ⟨u1, u2, u3⟩ := hI.out.cut c5 p5 f5
              have xn5 := cell_in u1.node (i := 0) rfl
              have x25 : w5.cell? ⟨nd.x, 2, none⟩ = some (pv v.x) := cell_in u1.node (i := 2) rfl
              have HL5 := Lib.hid (packLen p5)
              rw [show (nd.T.take i ++ nd.T.drop (i + k)).length = z by rw [List.length_append, List.length_take, List.length_drop, HT.out.1]; omega] at HL5
              have HU := Lib.hid (unlink_any u1)
              have hkT : nd.T.length - i = k := by rw [HT.out.1, HT.out.2]
              rw [← hkT] at p5
              have HC := Lib.hid (And.intro c5 (And.intro p5 f5))
              have HKT := Lib.hid hkT
              clear u1 u2 u3 c5 p5 f5 HDe hz hkT
              by_cases hz0 : z = 0
              · have dz : ((z : Int) == 0) = true := by rw [beq_iff_eq]; omega
                go_wp2_with fail
                refine HL5.out.mono ?_
                rintro e w' ⟨rfl, rfl⟩
                go_wp2_with fail
                refine HU.out.mono ?_
                rintro e w6 ⟨⟨v6, rfl⟩, q6, ch6⟩
                have HD := Lib.hid (hI.out.nextGone (by rw [HKT.out]; omega) (by have := HZ.out; have := HT.out.2; omega) HC.out.1 HC.out.2.1 HC.out.2.2 q6 ch6)
                rw [HKT.out] at HD
                clear q6 ch6 HU HL5 HC hI dz hz0 xn xn5 x25 HL hmin
                go_wp2_with fail
                go_roundw
                case rel => exact ⟨A, v, B, 0, r1 - k, by congr 1; omega, rfl, rfl, by omega, by omega, HD⟩
                case measure => simp [intOf]; omega
              · have dz : ((z : Int) == 0) = false := by rw [beq_eq_false_iff_ne]; omega
                have HD := Lib.hid (hI.out.next (by rw [HKT.out]; omega) HC.out.1 HC.out.2.1 HC.out.2.2 (by have := HZ.out; have := HT.out.2; omega))
                rw [HKT.out] at HD
                go_wp2_with fail
                refine HL5.out.mono ?_
                rintro e w' ⟨rfl, rfl⟩
                clear HU HL5 HC hI hz0 xn xn5 x25 HL hmin
                go_wp2_with fail
                go_roundw
                case rel => exact ⟨_, v, B, 0, r1 - k, by congr 1; omega, rfl, rfl, by omega, by omega, HD⟩
                case measure => simp [intOf]; omega
end Go.Proofs.YtlecnlnpgghmbaaGreatDoor

/- The law PackUndoes: the walk. -/
-- SOFT
namespace Go.Proofs.YtlecnlnpgghmbaaGreatDoor
set_option linter.unusedVariables false
set_option linter.unusedSimpArgs false
open Go.RowKit
theorem insP_ok {L : List ByteArray} (h : OKL L) (ht : totalT L ≤ 1048576) (hm : L.length ≤ 1001) {k : Nat} (hk : k ≤ L.length) {s : ByteArray} (hs : s.size ≤ 65536) : insP L k s = (0, L.take k ++ [s] ++ L.drop k) := by
  have h1 := body_le L h.each
  have h2 := entL_length s (by omega)
  unfold insP
  rw [if_neg (by omega), if_neg (by omega), if_neg (by unfold sizeP; omega), Int.toNat_natCast]
theorem insP_no {L : List ByteArray} {k : Nat} (hk : k ≤ L.length) {s : ByteArray} (hs : 65536 < s.size) : insP L k s = (3, L) := by
  unfold insP
  rw [if_neg (by omega), if_pos (.inl hs)]
theorem ins_get {L : List ByteArray} {k : Nat} (hk : k ≤ L.length) (s : ByteArray) : getV (L.take k ++ [s] ++ L.drop k) k = .tuple #[.string s, .bool true] := by
  have hl : (L.take k ++ [s] ++ L.drop k).length = L.length + 1 := by simp; omega
  have hb : placeB (L.take k ++ [s] ++ L.drop k).length k = true := by
    unfold placeB placeN
    rw [hl, if_neg (by omega)]
    simp; omega
  have hp : placeN (L.take k ++ [s] ++ L.drop k).length k = k := by unfold placeN; rw [if_neg (by omega)]
  unfold getV
  rw [hb, hp, Int.toNat_natCast]
  have : (L.take k ++ [s] ++ L.drop k).getD k ByteArray.empty = s := by
    have hk' : (L.take k).length = k := by rw [List.length_take]; omega
    rw [List.append_assoc]
    simp only [List.getD]
    rw [List.getElem?_append_right (by omega), hk', Nat.sub_self]
    rfl
  rw [this]; rfl
theorem ins_del {L : List ByteArray} {k : Nat} (hk : k ≤ L.length) (s : ByteArray) : delP (L.take k ++ [s] ++ L.drop k) k 1 = (0, L) := by
  have hl : (L.take k ++ [s] ++ L.drop k).length = L.length + 1 := by simp; omega
  have hk' : (L.take k).length = k := by rw [List.length_take]; omega
  unfold delP
  rw [hl, if_neg (by omega), Int.toNat_natCast, show ((1 : Int).toNat) = 1 from rfl]
  congr 1
  rw [List.append_assoc, List.take_left' hk', show k + 1 = (L.take k ++ [s]).length by simp [hk'], ← List.append_assoc, List.drop_left, List.take_append_drop]
theorem setP_ok {L : List ByteArray} (hz : sizeP L ≤ 100000000) {k : Nat} (hk : k < L.length) {s : ByteArray} (hs : s.size ≤ 65536) : setP L k s = (0, L.take k ++ [s] ++ L.drop (k + 1)) := by
  have hp : placeN L.length k = k := by unfold placeN; rw [if_neg (by omega)]
  have hb : placeB L.length k = true := by unfold placeB; rw [hp]; simp; omega
  have h2 := entL_length s (by omega)
  unfold setP
  rw [hb, hp, Int.toNat_natCast, if_neg (by simp), if_neg (by omega), if_neg (by omega)]
theorem set_back {L : List ByteArray} {k : Nat} (hk : k < L.length) (s : ByteArray) : (L.take k ++ [s] ++ L.drop (k + 1)).take k ++ [L[k]] ++ (L.take k ++ [s] ++ L.drop (k + 1)).drop (k + 1) = L := by
  have hk' : (L.take k).length = k := by rw [List.length_take]; omega
  rw [List.append_assoc (L.take k), List.take_left' hk', show k + 1 = (L.take k ++ [s]).length by simp [hk'], ← List.append_assoc, List.drop_left, List.length_append, hk', List.length_singleton]
  rw [← take_succ_get hk, List.take_append_drop]
end Go.Proofs.YtlecnlnpgghmbaaGreatDoor

/- quick: Set. -/
namespace Go.Proofs.YtlecnlnpgghmbaaGreatDoor
set_option linter.unusedVariables false
set_option linter.unusedSimpArgs false
open Go.RowKit
def setQ (L : List ByteArray) (a : Int) (s : ByteArray) : Int × List ByteArray :=
  if qplB L.length a = false then (6, L) else if 65536 < s.size then (3, L) else (0, L.take (qplN L.length a).toNat ++ [s] ++ L.drop ((qplN L.length a).toNat + 1))
theorem setP_many {T : List ByteArray} {k : Nat} (hk : k < T.length) {s : ByteArray} (hs : 65536 < s.size) : setP T (k : Int) s = (3, T) := by
  have hp : placeN T.length k = k := by unfold placeN; rw [if_neg (by omega)]
  have hb : placeB T.length k = true := by unfold placeB; rw [hp]; simp; omega
  unfold setP
  rw [hb, if_neg (by simp), if_pos hs]
/-- What Set makes. -/
theorem At.set {Ns A B : List Nd} {nd : Nd} {m pl : Nat} (h : At Ns (m + 1) A nd B pl) (F' : Nat → Prop) (s : ByteArray) : flatN (A ++ ⟨nd.x, nd.p, F', nd.T.take (pl - 1) ++ [s] ++ nd.T.drop pl⟩ :: B) = (flatN Ns).take m ++ [s] ++ (flatN Ns).drop (m + 1) := by
  have hp := h.pos (by omega)
  have h1 := h.sum
  have h2 := h.le
  have e1 : (flatN Ns).take m = flatN A ++ nd.T.take (pl - 1) := by
    rw [h.flat, show m = (flatN A).length + (pl - 1) by omega, List.append_assoc, List.take_length_add_append, List.take_append_of_le_length (by omega)]
  rw [e1, h.drop, flat_append, flat_cons]
  simp [List.append_assoc]
set_option maxHeartbeats 3200000 in
set_option maxRecDepth 100000 in
theorem quickSet {w0 w : World} (hl : Laid w0) (hb0 : Below w0.heap.size w0 w) (hN : w0.heap.size ≤ w.heap.size) {q : Nat} {F : Nat → Prop} {L : List ByteArray} (h : QuickF w q F L) (kF : ∀ k, F k → w0.heap.size ≤ k) (hn : L.length ≤ 1000000000) (a : Int) (ha : -9223372036854775808 ≤ a ∧ a ≤ 9223372036854775807) (s : ByteArray) (hs : s.size ≤ 9000000000000000000) :
    Calls Tryz.prog 171 #[pv q, .int .i64 a, .string s] w fun e w' => e = .returned (.int .i64 (setQ L a s).1) ∧ (∃ F', QuickF w' q F' (setQ L a s).2 ∧ Fresh w F F') ∧ Chg F w w' := by
  have hF0 := h
  obtain ⟨Ns, h1, h2, h3, h4⟩ := h
  have q0 : w.cell? ⟨q, 0, none⟩ = some (.bool true) := cell_in h1.head (i := 0) rfl
  have HP := Lib.hid (qplace_any h1 hn a ha)
  cases hb : qplB L.length a with
  | false =>
    have hv : setQ L a s = (6, L) := by unfold setQ; rw [if_pos hb]
    rw [hv]
    rw [hb] at HP
    have HS := Lib.hid (show (∃ F', QuickF w q F' L ∧ Fresh w F F') ∧ Chg F w w from ⟨⟨F, hF0, fun k hk => .inl hk⟩, Chg.refl _ _⟩)
    clear hF0 h1 h2 h3 h4 hl hb0 kF hv hb
    generalize qplN L.length a = k at *
    go_enter Tryz.func171, Tryz.ntmps171
    go_wp2_with fail
    refine HP.out.mono ?_
    rintro e w' ⟨rfl, rfl⟩
    go_wp2_with fail
    go_ret
    exact ⟨rfl, HS.out⟩
  | true =>
    have hk : 0 ≤ qplN L.length a ∧ qplN L.length a < L.length := by
      unfold qplB at hb
      simpa using hb
    obtain ⟨k, hkn⟩ : ∃ k : Nat, qplN L.length a = (k : Int) := ⟨(qplN L.length a).toNat, by omega⟩
    rw [hkn] at hk
    have hv : setQ L a s = if 65536 < s.size then (3, L) else (0, L.take k ++ [s] ++ L.drop (k + 1)) := by unfold setQ; rw [if_neg (by rw [hb]; simp), hkn]; rfl
    rw [hb, hkn] at HP
    have hfn : (flatN Ns).length = L.length := by rw [h3]
    have HFd := Lib.hid (find_any h1 (k + 1) (by omega) (by omega))
    rw [show ((k + 1 : Nat) : Int) = (k : Int) + 1 by omega] at HFd
    have HH := Lib.hid (And.intro h1 (And.intro h2 (And.intro h3 (And.intro h4 (And.intro hl (And.intro hb0 (And.intro hN hfn)))))))
    have hkb : k < 1000000000 := by omega
    have hkL : k < L.length := by omega
    obtain ⟨R, hR⟩ : ∃ R, setQ L a s = R := ⟨_, rfl⟩
    rw [hR] at hv ⊢
    have HV := Lib.hid hv
    have HF0 := Lib.hid hF0
    clear h1 h2 h3 h4 hl hb0 hN hb hkn hk hfn hv hR hF0 kF
    go_enter Tryz.func171, Tryz.ntmps171
    go_wp2_with fail
    refine HP.out.mono ?_
    rintro e w' ⟨rfl, rfl⟩
    go_wp2_with fail
    refine HFd.out.mono ?_
    rintro e w1 ⟨⟨hnil, _⟩ | ⟨A, nd, B, pl, hat, rfl⟩, b1⟩
    · exfalso
      have := HH.out.2.2.2.2.2.2.2
      rw [hnil] at this
      simp at this
      omega
    · have hq := HH.out.1
      rw [hat.eq] at hq
      have hq1 := hq.below b1
      have xn := cell_in hq1.node (i := 0) rfl
      have hpl := hat.pos (by omega)
      have hle := hat.le
      have hpn := hq1.packs nd (by simp)
      have hb01 : Below w0.heap.size w0 w1 := HH.out.2.2.2.2.2.1.trans (b1.mono HH.out.2.2.2.2.2.2.1)
      have h32 : nd.T.length ≤ 32 := (HH.out.2.1 nd (by rw [hat.eq]; simp)).2
      have HS1 := Lib.hid (packSet hpn (HH.out.2.2.2.2.1.below hb01) ((pl - 1 : Nat) : Int) (by omega) s hs)
      have HB1 := Lib.hid b1
      have hpb : pl ≤ 32 := by omega
      by_cases hbig : 65536 < s.size
      · rw [setP_many (by omega) hbig, show ((pl - 1 : Nat) : Int) = (pl : Int) - 1 by omega] at HS1
        have hRv : R = (3, L) := by rw [HV.out, if_pos hbig]
        subst hRv
        have HQ1 := Lib.hid (And.intro hq1 hat)
        clear hq hq1 hat b1 hle hpn hb01 h32
        go_wp2_with fail
        refine HS1.out.mono ?_
        rintro e w2 ⟨rfl, ⟨F2, p2, f2⟩, c2⟩
        have HE := Lib.hid (HQ1.out.1.setPack c2 p2 f2)
        have HC := Lib.hid (And.intro c2 f2)
        clear p2 f2 c2
        go_wp2_with fail
        go_ret
        have hsz := HB1.out.size
        have hFn : ∀ k, nd.F k → F k := fun k hk => (HH.out.2.2.2.1 k).2 (.inr ⟨nd, by rw [HQ1.out.2.eq]; simp, .inr hk⟩)
        refine ⟨rfl, ⟨foot q (A ++ ⟨nd.x, nd.p, F2, nd.T⟩ :: B), ⟨_, HE.out, fun x hx => ?_, ?_, fun k => Iff.rfl⟩, fun k hk => ?_⟩, ((Chg.of_below F HB1.out).trans HC.out.1 fun k hk _ => hFn k hk)⟩
        · have hg := HH.out.2.1
          rw [HQ1.out.2.eq] at hg
          simp only [List.mem_append, List.mem_cons] at hx
          rcases hx with hx | rfl | hx
          · exact hg x (by simp [hx])
          · exact hg nd (by simp)
          · exact hg x (by simp [hx])
        · rw [← HH.out.2.2.1, HQ1.out.2.flat, flat_append, flat_cons, List.append_assoc]
        · rcases hk with rfl | ⟨x, hx, hk⟩
          · exact .inl ((HH.out.2.2.2.1 _).2 (.inl rfl))
          · simp only [List.mem_append, List.mem_cons] at hx
            rcases hx with hx | rfl | hx
            · exact .inl ((HH.out.2.2.2.1 _).2 (.inr ⟨x, by rw [HQ1.out.2.eq]; simp [hx], hk⟩))
            · rcases hk with rfl | hk
              · exact .inl ((HH.out.2.2.2.1 _).2 (.inr ⟨nd, by rw [HQ1.out.2.eq]; simp, .inl rfl⟩))
              · rcases HC.out.2 k hk with h8 | h8
                · exact .inl (hFn k h8)
                · exact .inr (Nat.le_trans hsz h8)
            · exact .inl ((HH.out.2.2.2.1 _).2 (.inr ⟨x, by rw [HQ1.out.2.eq]; simp [hx], hk⟩))
      · rw [setP_ok (few_size hpn.ok.each (by omega)) (by omega) (by omega), show ((pl - 1 : Nat) : Int) = (pl : Int) - 1 by omega, show pl - 1 + 1 = pl by omega] at HS1
        have hRv : R = (0, L.take k ++ [s] ++ L.drop (k + 1)) := by rw [HV.out, if_neg hbig]
        subst hRv
        have HQ1 := Lib.hid (And.intro hq1 hat)
        clear hq hq1 hat b1 hle hpn hb01
        go_wp2_with fail
        refine HS1.out.mono ?_
        rintro e w2 ⟨rfl, ⟨F2, p2, f2⟩, c2⟩
        have HE := Lib.hid (HQ1.out.1.setPack c2 p2 f2)
        have HC := Lib.hid (And.intro c2 f2)
        clear p2 f2 c2
        go_wp2_with fail
        go_ret
        have hsz := HB1.out.size
        have hFn : ∀ k, nd.F k → F k := fun k hk => (HH.out.2.2.2.1 k).2 (.inr ⟨nd, by rw [HQ1.out.2.eq]; simp, .inr hk⟩)
        refine ⟨rfl, ⟨foot q (A ++ ⟨nd.x, nd.p, F2, nd.T.take (pl - 1) ++ [s] ++ nd.T.drop pl⟩ :: B), ⟨_, ?_, fun x hx => ?_, ?_, fun k => Iff.rfl⟩, fun k hk => ?_⟩, ((Chg.of_below F HB1.out).trans HC.out.1 fun k hk _ => hFn k hk)⟩
        · have : ((L.take k ++ s :: L.drop (k + 1)).length : Nat) = L.length := by simp only [List.length_append, List.length_take, List.length_drop, List.length_cons]; omega
          rw [this]
          exact HE.out
        · have hg := HH.out.2.1
          have hle := HQ1.out.2.le
          rw [HQ1.out.2.eq] at hg
          simp only [List.mem_append, List.mem_cons] at hx
          rcases hx with hx | rfl | hx
          · exact hg x (by simp [hx])
          · refine ⟨by simp, ?_⟩
            simp only [List.length_append, List.length_take, List.length_drop, List.length_singleton]; omega
          · exact hg x (by simp [hx])
        · rw [HQ1.out.2.set, HH.out.2.2.1]; simp
        · rcases hk with rfl | ⟨x, hx, hk⟩
          · exact .inl ((HH.out.2.2.2.1 _).2 (.inl rfl))
          · simp only [List.mem_append, List.mem_cons] at hx
            rcases hx with hx | rfl | hx
            · exact .inl ((HH.out.2.2.2.1 _).2 (.inr ⟨x, by rw [HQ1.out.2.eq]; simp [hx], hk⟩))
            · rcases hk with rfl | hk
              · exact .inl ((HH.out.2.2.2.1 _).2 (.inr ⟨nd, by rw [HQ1.out.2.eq]; simp, .inl rfl⟩))
              · rcases HC.out.2 k hk with h8 | h8
                · exact .inl (hFn k h8)
                · exact .inr (Nat.le_trans hsz h8)
            · exact .inl ((HH.out.2.2.2.1 _).2 (.inr ⟨x, by rw [HQ1.out.2.eq]; simp [hx], hk⟩))
end Go.Proofs.YtlecnlnpgghmbaaGreatDoor

/- quick: Packs; one element more behind a slice that lies in a cell. -/
namespace Go.Proofs.YtlecnlnpgghmbaaGreatDoor
set_option linter.unusedVariables false
set_option linter.unusedSimpArgs false
open Go.RowKit
theorem SliceIs.vb {w : World} {B n : Nat} {e : TypeId} {v : Value} {xs : List Value} (h : SliceIs w B e v n xs) {k : Nat} (hk : vblock v = some k) : B ≤ k ∧ k < w.heap.size ∧ ∃ cur fz, w.heap[k]? = some (.cells cur e fz) := by
  rcases h.2 with ⟨rfl, _⟩ | ⟨g, cap, cur, rfl, h2, ⟨fz, _, hh⟩, _⟩
  · cases hk
  · cases hk; exact ⟨h2, heap_lt hh, cur, fz, hh⟩
theorem SliceIs.ofZero {w : World} {B n : Nat} {e : TypeId} {v : Value} {xs : List Value} (h : SliceIs w 0 e v n xs) (hb : ∀ g, vblock v = some g → B ≤ g) : SliceIs w B e v n xs := by
  refine ⟨h.1, h.2.imp id ?_⟩
  rintro ⟨g, cap, cur, rfl, _, h3⟩
  exact ⟨g, cap, cur, rfl, hb g rfl, h3⟩
theorem SliceIs.ownQ {W W' : World} {row : Option Nat} (hg : W.grownBy W' row) (hr : ∀ r, row = some r → ∃ o : Obj, W.heap[r]? = some o ∧ o.isCells = false) {B n : Nat} {e : TypeId} {v : Value} {xs : List Value} (h : SliceIs W B e v n xs) : SliceIs W' B e v n xs := by
  refine ⟨h.1, h.2.imp id ?_⟩
  rintro ⟨g, cap, cur, rfl, h2, ⟨fz, h3, h4⟩, h5⟩
  exact ⟨g, cap, cur, rfl, h2, ⟨fz, h3, grown_keepP hg hr h4⟩, h5⟩
theorem app_cell {P : Program} {w : World} {n0 c : Nat} {e ts : TypeId} {v : Value} {n : Nat} {xs : List Value} {t ty : TypeId} {i : TypeInfo} {z : Value} {bytes : Nat} (ht : P.underlying t = some (.slice e)) (hi : P.info? e = some i) (hz : i.zero = some z)
    (hsize : i.size = 1) (hby : i.bytes = bytes) (hzs : z.cells.size = 1) (hne : ts ≠ e) (hc : w.heap[c]? = some (.cells #[v] ts (0, 0))) (h : SliceIs w n0 e v n xs) (hn0 : n0 ≤ w.heap.size) (u : Value) (hu : u.oneCell' = true) (h63 : n + 1 ≤ maxLen) (hbytes : (n + 1) * bytes ≤ 140737488355328) :
    ∃ a' c' W2 W3, (Builtin.append_ #[t, t] ty #[v, .slice (some ⟨w.heap.size, 0, none⟩) 1 1]).run P (w.alloc (.cells #[u] e)) = .ok (.slice a' (n + 1) c') W2 ∧ W3 = W2.setCell ⟨c, 0, none⟩ (.slice a' (n + 1) c') ∧
      W2.heap[c]? = some (.cells #[v] ts (0, 0)) ∧ W3.heap[c]? = some (.cells #[.slice a' (n + 1) c'] ts (0, 0)) ∧ SliceIs W3 n0 e (.slice a' (n + 1) c') (n + 1) (xs ++ [u]) ∧ Chg (fun k => vblock v = some k ∨ k = c) w W3 ∧ (vblock (.slice a' (n + 1) c') = vblock v ∨ ∃ k, vblock (.slice a' (n + 1) c') = some k ∧ w.heap.size ≤ k) := by
  obtain ⟨v', W2, hr, s2, c2, hv2⟩ := run_append_own1 (P := P) (ty := ty) ht hi hz hsize hby hzs (h.mono (Nat.zero_le _)) u hu h63 hbytes
  obtain ⟨a', c', rfl, _⟩ := s2.arg
  have hvc : vblock v ≠ some c := fun e2 => by
    obtain ⟨_, _, cur, fz, hh⟩ := h.vb e2
    rw [hc] at hh
    injection hh with hh
    injection hh with _ hh _
    exact hne hh
  have h2 := c2.keep hc hvc
  have hc3 : Chg (fun k => k = c) W2 (W2.setCell ⟨c, 0, none⟩ (.slice a' (n + 1) c')) := Chg.setCell _ _ _ _ rfl
  refine ⟨a', c', W2, _, hr, rfl, h2, setCell_head h2 0 _, SliceIs.ofZero (s2.chg hc3 fun k hk e2 => ?_) fun g hg => ?_, (c2.mono fun k hk _ => .inl hk).trans hc3 fun k hk _ => .inr hk, hv2⟩
  · subst e2
    rcases hv2 with h3 | ⟨k2, h3, h4⟩
    · exact hvc (h3.symm.trans hk)
    · rw [h3] at hk
      cases hk
      have := heap_lt hc
      omega
  · rcases hv2 with h3 | ⟨k2, h3, h4⟩
    · exact (h.vb (h3.symm.trans hg)).1
    · rw [h3] at hg
      cases hg
      omega
theorem info_int : (Tryz.prog.info? 3).map (fun i => (i.zero, i.size, i.bytes)) = some (some (.int .i64 0), 1, 8) := by kernel_rfl
def lenV (nd : Nd) : Value := .int .i64 nd.T.length
end Go.Proofs.YtlecnlnpgghmbaaGreatDoor

/- quick: the loop of Range over one pack. -/
namespace Go.Proofs.YtlecnlnpgghmbaaGreatDoor
set_option linter.unusedVariables false
set_option linter.unusedSimpArgs false
open Go.RowKit Go.Shelf
attribute [local go_sem] Oper.semAt_some
theorem wpListIn_append_runQ {F : Fence} {n : Nat} {P : Program} {ops : Array Oper} {Q : Exit → Act → World → Prop} {rest : List Oper} {o : Oper} {a : Act} {w w' : World} {s x : Operand} {t u : TypeId} {v : Value} (hg : o.guard = none)
    (hop : o.op = .call { callee := .builtin .append, args := #[s, x], argTypes := #[t, u] }) (hr : (Builtin.append_ #[t, u] o.type #[a.eval s, a.eval x]).run P w = .ok v w')
    (h : wpListIn F n P ops Q rest (a.put o.dst v) w') : wpListIn F n P ops Q (o :: rest) a w := by
  refine wpListIn_plain hg fun K hK' => ?_
  unfold Oper.wpIn
  refine ⟨?_, ?_⟩
  · simp [Oper.about, hop, resolve, Target.leads, Sem.run_pure]
  · rw [Oper.semAt_plain F _ _ (by rw [hop]; intro c hc'; cases hc')]
    rw [exec_append hop hr]
    exact hK' _ _ h
/-- The texts from a place on, up to another one. -/
def rangeT (L : List ByteArray) (f : Nat) (t : Int) : List ByteArray := (L.take (t + 1).toNat).drop f
theorem rangeT_snoc (L : List ByteArray) (s : ByteArray) (f : Nat) (t : Int) : rangeT (L ++ [s]) f t = if f ≤ L.length ∧ (L.length : Int) ≤ t then rangeT L f t ++ [s] else rangeT L f t := by
  unfold rangeT
  by_cases h1 : (L.length : Int) ≤ t
  · rw [List.take_of_length_le (by simp; omega), List.take_of_length_le (by omega)]
    by_cases h2 : f ≤ L.length
    · rw [if_pos ⟨h2, h1⟩, List.drop_append_of_le_length h2]
    · rw [if_neg (by omega), List.drop_eq_nil_of_le (by simp; omega), List.drop_eq_nil_of_le (by omega)]
  · rw [if_neg (by omega), List.take_append_of_le_length (by omega)]
theorem rangeT_far (L M : List ByteArray) (f : Nat) (t : Int) (h : t < (L.length : Int)) : rangeT (L ++ M) f t = rangeT L f t := by
  unfold rangeT
  rw [List.take_append_of_le_length (by omega)]
theorem rangeT_length (L : List ByteArray) (f : Nat) (t : Int) : (rangeT L f t).length ≤ L.length := by
  unfold rangeT
  rw [List.length_drop, List.length_take]; omega
theorem rangeT_nil (f : Nat) (t : Int) : rangeT [] f t = [] := by unfold rangeT; simp
theorem KeepP.chgT {N n1 g : Nat} {S : Nat → Prop} {W W' : World} (hc : Chg S W W') (hN : ∀ k, S k → N ≤ k) (hs : N ≤ W.heap.size) (hT : ∀ k, S k → ∀ cs E fz, W.heap[k]? = some (.cells cs E fz) → E ≠ 5 ∧ E ≠ 151) : KeepP N n1 g W W' :=
  ⟨belowChg (Below.refl _ _) hc hs fun k hk _ => hN k hk, hc.size, fun cs fz e => hc.keep e fun hS => (hT _ hS _ _ _ e).1 rfl, fun k cs fz _ e => hc.keep e fun hS => (hT _ hS _ _ _ e).2 rfl⟩
/-- Between two rounds. -/
structure RngI (w0 w : World) (ca cf ct co m f : Nat) (t : Int) (v0 : Value) (L T : List ByteArray) (pre : List { x // x ∈ toldP T }) (W : World) : Prop where
  below : Below w0.heap.size w0 W
  b0 : W.heap[ca]? = some (intO ((m + pre.length : Nat) : Int))
  b1 : W.heap[cf]? = some (intO f)
  b2 : W.heap[ct]? = some (intO t)
  got : ∃ v, W.heap[co]? = some (.cells #[v] 22 (0, 0)) ∧ SliceIs W w0.heap.size 9 v (rangeT (L ++ pre.map (·.1.2)) f t).length ((rangeT (L ++ pre.map (·.1.2)) f t).map strV) ∧ (vblock v = vblock v0 ∨ ∃ k, vblock v = some k ∧ w.heap.size ≤ k)
  chg : Chg (fun k => k = ca ∨ k = co ∨ vblock v0 = some k) w W
theorem RngI.own {w0 w : World} {ca cf ct co m f : Nat} {t : Int} {v0 : Value} {L T : List ByteArray} {B : Nat} (h0 : w0.heap.size ≤ w.heap.size) (hB : w.heap.size ≤ B) : OwnFrom B (RngI w0 w ca cf ct co m f t v0 L T) := by
  rintro pre W W' row h hg hr
  have hr2 := fun r e => (hr r e).2
  obtain ⟨v, g1, g2, g3⟩ := h.got
  refine ⟨grown_belowP h.below hg (fun r e => (hr r e).1) (by omega) (by have := h.chg.size; omega), grown_keepP hg hr2 h.b0, grown_keepP hg hr2 h.b1, grown_keepP hg hr2 h.b2, ⟨v, grown_keepP hg hr2 g1, g2.ownQ hg hr2, g3⟩, ?_⟩
  refine h.chg.trans (S' := fun k => row = some k) ⟨hg.os, hg.tape, hg.output, hg.size, fun k hk hn => hg.block k hk fun e => hn e.symm⟩ fun k hk hlt => ?_
  have := (hr k hk).1
  omega
set_option maxHeartbeats 6400000 in
set_option maxRecDepth 100000 in
theorem range1_any {w0 w : World} (hl : Laid w0) (hb0 : Below w0.heap.size w0 w) (hN : w0.heap.size ≤ w.heap.size) {x p : Nat} {F : Nat → Prop} {T : List ByteArray} {a b : Option Nat} (hn : w.heap[x]? = some (nodeO p a b)) (hp : PackF w p F T)
    {ca cf ct co f : Nat} {t : Int} {v : Value} {L : List ByteArray} (h0 : w.heap[ca]? = some (intO (L.length : Nat))) (h1 : w.heap[cf]? = some (intO f)) (h2 : w.heap[ct]? = some (intO t)) (h3 : w.heap[co]? = some (.cells #[v] 22 (0, 0)))
    (hs : SliceIs w w0.heap.size 9 v (rangeT L f t).length ((rangeT L f t).map strV)) (n1 : ca ≠ cf) (n2 : ca ≠ ct) (na : w0.heap.size ≤ ca) (no : w0.heap.size ≤ co) (hLm : L.length + T.length ≤ 1000000000) (hfm : f ≤ 9223372036854775807) (htm : -9223372036854775808 ≤ t ∧ t ≤ 9223372036854775807) :
    Calls Tryz.prog 177 #[pv x, pv ca, pv cf, pv ct, pv co] w fun e w' => e = .returned (.bool (decide (((L.length + T.length : Nat) : Int) ≤ t))) ∧ w'.heap[ca]? = some (intO ((L.length + T.length : Nat) : Int)) ∧ w'.heap[cf]? = some (intO f) ∧ w'.heap[ct]? = some (intO t) ∧
      (∃ v', w'.heap[co]? = some (.cells #[v'] 22 (0, 0)) ∧ SliceIs w' w0.heap.size 9 v' (rangeT (L ++ T) f t).length ((rangeT (L ++ T) f t).map strV)) ∧ Chg (fun k => k = ca ∨ k = co ∨ vblock v = some k) w w' := by
  have HA := Lib.hid (fun w => packAll w p)
  have xn := cell_in hn (i := 0) rfl
  obtain ⟨w5, hw5⟩ : ∃ w5, w5 = w.alloc (.cells #[.pointer (some ⟨p, 0, none⟩)] 79) := ⟨_, rfl⟩
  have hs5 : w5.heap.size = w.heap.size + 1 := by rw [hw5]; simp
  have hb5 : Below w.heap.size w w5 := by rw [hw5]; exact (Below.refl w.heap.size w).alloc (Nat.le_refl _) _
  have hbp : w5.cell? ⟨w.heap.size, 0, none⟩ = some (.pointer (some ⟨p, 0, none⟩)) := by rw [hw5]; exact cell_in (heap_new _ _) rfl
  have hb05 : Below w0.heap.size w0 w5 := hb0.trans (hb5.mono hN)
  have hI0 : RngI w0 w ca cf ct co L.length f t v L T [] w5 := by
    have k : ∀ {c : Nat} {o : Obj}, w.heap[c]? = some o → w5.heap[c]? = some o := fun {c o} e => (hb5.block c (heap_lt e)).trans e
    refine ⟨hb05, by simpa using k h0, k h1, k h2, ⟨v, k h3, by simpa using hs.below hb5, .inl rfl⟩, Chg.of_below _ hb5⟩
  have h15 := hp.below hb5
  obtain ⟨g, cap, cur, hrw, hF1⟩ := h15
  have HSeq := Lib.hid (packStopsM hl rfl hb05 (by omega) hrw hbp 2)
  have HI0 := Lib.hid hI0
  have HW5 := Lib.hid (And.intro hw5 hs5)
  have H := Lib.hid (And.intro hN (And.intro (And.intro na no) (And.intro (show ∀ k, vblock v = some k → w0.heap.size ≤ k from fun k hk => (hs.vb hk).1) (And.intro h0 h3))))
  have hTm := hp.ok.many
  clear hw5 hs5 hb5 hbp hI0 hrw hl hb0 hb05 hn hp h0 h1 h2 h3 hs hF1 hN na no
  obtain ⟨tm, htmq⟩ : ∃ tm : Array Value, tm = #[pv x, pv ca, pv cf, pv ct, pv co, undef, .bool false, undef, undef, pv x, .pointer (some ⟨x, 0, none⟩), .pointer (some ⟨x, 0, none⟩), .pointer (some ⟨p, 0, none⟩), .func (.func 110) #[] #[.pointer (some ⟨w.heap.size, 0, none⟩)], undef, undef, undef, undef, undef, undef, undef, undef, undef, undef, undef, undef, undef, undef, undef, undef, undef, undef, undef] := ⟨_, rfl⟩
  have HTm := Lib.hid htmq
  clear htmq
  refine callsIn_wide.1 (callsIn_of_wp_marks (n := 3) Tryz.func177 rfl trivial ?_ rfl)
  refine wpIn_wide.2 ?_
  simp only [Tryz.ntmps177, List.size_toArray, List.length_cons, List.length_nil, Nat.reduceAdd, Nat.reduceSub, Array.replicate_succ, Array.replicate_zero, List.push_toArray, List.append_toArray, List.nil_append, List.cons_append]
  go_wp2_with fail
  refine (HA.out w).mono ?_
  rintro en w' ⟨rfl, hw'⟩
  obtain rfl : w' = w5 := hw'.trans HW5.out.1.symm
  clear hw'
  go_wp2_with fail
  refine (wpIn_wide (n := 3)).1 ?_
  refine wpIn_rangeFunc_ownH (F := Fence.wide) rfl (by omega) (gf := 110) (lb := #[.pointer (some ⟨w.heap.size, 0, none⟩)]) rfl trivial (fun args w => rfl) HSeq.out KeepP.trans (fun W l o o' hle hl ho _ => KeepP.putObj W l o o' (by have := HW5.out.2; have := H.out.1; omega) hl ho) (Below.refl _ _) (fun _ => rfl)
    (RngI w0 w ca cf ct co L.length f t v L T) (fun _ _ _ => False) (RngI.own H.out.1 (by have := HW5.out.2; omega)) (fun c => fun _ _ _ _ h _ _ => h) HI0.out (fun x a' _ => a' = { tmps := ((tm.setIfInBounds 14 (.int .i64 x.1.1)).setIfInBounds 15 (.string x.1.2)).setIfInBounds 8 (.string x.1.2), defers := [] }) (fun x a' => fun _ _ _ _ h _ _ => h) ?assign ?body ?done ?stop
  case assign =>
    intro l pre x W K hI hK
    have HI := Lib.hid hI
    clear hI
    unfold encP
    gi_wp2
    refine hK _ _ (KeepsFrom.refl _ _) (KeepP.of_below (Below.refl _ _) (by have := HI.out.chg.size; have := H.out.1; omega)) HI.out ?_
    rw [HTm.out]; rfl
  case body =>
    rintro l pre ⟨⟨xi, xs⟩, hx⟩ a' W _ _ hI rfl hlen
    have HI := Lib.hid hI
    obtain ⟨v1, g1, g2, g3⟩ := hI.got
    obtain ⟨av, cv, rfl, _⟩ := g2.arg
    obtain ⟨M, hM⟩ : ∃ M, L ++ pre.map (·.1.2) = M := ⟨_, rfl⟩
    rw [hM] at g1 g2 g3
    have hMl : M.length = L.length + pre.length := by rw [← hM]; simp
    have hpl : pre.length < T.length := by simpa using hlen
    have x0 := cell_in hI.b0 (i := 0) rfl
    have x1 := cell_in hI.b1 (i := 0) rfl
    have x2 := cell_in hI.b2 (i := 0) rfl
    have x3 := cell_in g1 (i := 0) rfl
    have f0 := frozen_in hI.b0 0
    have f3 := frozen_in g1 0
    have hWs : w0.heap.size ≤ W.heap.size := by have := hI.chg.size; have := H.out.1; omega
    obtain ⟨K, hK⟩ : ∃ K, L.length + pre.length = K := ⟨_, rfl⟩
    rw [hK] at x0 hMl
    have hrl := rangeT_length M f t
    have hsn := rangeT_snoc M xs f t
    rw [hMl] at hsn
    have hcao : ca ≠ co := fun e => by
      have := H.out.2.2.2.1
      rw [e, H.out.2.2.2.2] at this
      injection this with this
      injection this with _ this _
      exact absurd this (by decide)
    rw [HTm.out]
    simp only [List.setIfInBounds_toArray, List.set_cons_succ, List.set_cons_zero]
    have hpre : ∀ (h : (⟨(xi, xs), hx⟩ : { x // x ∈ toldP T }) = ⟨(xi, xs), hx⟩), L ++ (pre ++ [(⟨(xi, xs), hx⟩ : { x // x ∈ toldP T })]).map (fun x => x.1.2) = M ++ [xs] := fun _ => by rw [List.map_append, ← List.append_assoc, hM]; rfl
    by_cases hm : f ≤ K ∧ (K : Int) ≤ t
    · rw [if_pos hm] at hsn
      have d1' : decide (f ≤ K) = true := decide_eq_true hm.1
      have d1 : decide ((f : Int) ≤ (K : Int)) = true := decide_eq_true (by omega)
      have d2 : decide ((K : Int) ≤ t) = true := decide_eq_true hm.2
      obtain ⟨i0, k1, k2, k3, k4⟩ := info_parts info_str
      obtain ⟨a', c', W2, W3, hr, hW3, q2, q3, s3, c3, v3⟩ := app_cell (P := Tryz.prog) (t := 22) (ty := 22) Tryz.underlying22 k1 k2 k3 k4 rfl (ts := 22) (by decide) g1 g2 hWs (.string xs) rfl (by unfold maxLen; omega) (by omega)
      have hvE : ∀ k, vblock (.slice av (rangeT M f t).length cv) = some k → ∃ cur fz, W.heap[k]? = some (.cells cur 9 fz) := fun k hk => (g2.vb hk).2.2
      have hnv : ∀ (k : Nat) (cs : Array Value) (E : TypeId) (fz : Nat × Nat), W.heap[k]? = some (.cells cs E fz) → E ≠ 9 → vblock (.slice av (rangeT M f t).length cv) ≠ some k := fun k cs E fz hk hE e => by
        obtain ⟨cur, fz', hh⟩ := hvE k e
        rw [hk] at hh; cases hh; exact hE rfl
      have h3c : W3.heap[ca]? = some (intO K) := by
        rw [← hK]
        exact c3.keep hI.b0 fun h => h.elim (fun h => hnv _ _ _ _ hI.b0 (by decide) h) hcao
      have h2c : W2.heap[ca]? = some (intO K) := by
        have := h3c
        rw [hW3, Below.heap_setCell _ _ _ _ hcao] at this
        exact this
      have yy0 := cell_in h2c (i := 0) rfl
      have yyf := frozen_in h2c 0
      have y0 := cell_in h3c (i := 0) rfl
      have yf := frozen_in h3c 0
      have z0 := cell_in q2 (i := 0) rfl
      have zf := frozen_in q2 0
      obtain ⟨W4, hW4⟩ : ∃ W4, W4 = W3.setCell ⟨ca, 0, none⟩ (.int .i64 ((K : Int) + 1)) := ⟨_, rfl⟩
      have c4 : Chg (fun k => k = ca) W3 W4 := by rw [hW4]; exact Chg.setCell _ _ _ _ rfl
      have h4c : W4.heap[ca]? = some (intO ((K + 1 : Nat) : Int)) := by rw [hW4, setCell_head h3c 0 _, show ((K + 1 : Nat) : Int) = (K : Int) + 1 by omega]; rfl
      have hc : Chg (fun k => (vblock (.slice av (rangeT M f t).length cv) = some k ∨ k = co) ∨ k = ca) W W4 := (c3.mono fun k hk _ => .inl hk).trans c4 fun k hk _ => .inr hk
      have HFin := Lib.hid (show ownPostG w'.heap.size (KeepP w0.heap.size w'.heap.size g) (RngI w0 w ca cf ct co L.length f t v L T) (fun _ _ _ => False) (pre ++ [⟨(xi, xs), hx⟩]) W .normal { tmps := #[], defers := [] } W4 from by
        have h' := H.out
        refine ⟨keepsFrom_ofP _ hc fun k hk o ho => ?_, KeepP.chgT hc (fun k hk => ?_) hWs fun k hk cs E fz e => ?_, belowChg hI.below hc hWs fun k hk _ => ?_, ?_, hc.keep hI.b1 ?_, hc.keep hI.b2 ?_, ⟨_, c4.keep q3 (Ne.symm hcao), ?_, ?_⟩, hI.chg.trans hc fun k hk hlt => ?_⟩
        · rcases hk with (hk | rfl) | rfl
          · obtain ⟨cur, fz, hh⟩ := hvE k hk
            rw [hh] at ho; cases ho; rfl
          · rw [g1] at ho; cases ho; rfl
          · rw [hI.b0] at ho; cases ho; rfl
        · rcases hk with (hk | rfl) | rfl
          · exact (g2.vb hk).1
          · exact h'.2.1.2
          · exact h'.2.1.1
        · rcases hk with (hk | rfl) | rfl
          · obtain ⟨cur, fz', hh⟩ := hvE k hk
            rw [hh] at e; cases e; exact ⟨by decide, by decide⟩
          · rw [g1] at e; cases e; exact ⟨by decide, by decide⟩
          · rw [hI.b0] at e; cases e; exact ⟨by decide, by decide⟩
        · rcases hk with (hk | rfl) | rfl
          · exact (g2.vb hk).1
          · exact h'.2.1.2
          · exact h'.2.1.1
        · rw [h4c]
          congr 3
          rw [List.length_append, List.length_singleton, ← hK]; rfl
        · rintro ((h | h) | h)
          · exact hnv _ _ _ _ hI.b1 (by decide) h
          · have := hI.b1; rw [h, g1] at this; injection this with this; injection this with _ this _; exact absurd this (by decide)
          · exact n1 h.symm
        · rintro ((h | h) | h)
          · exact hnv _ _ _ _ hI.b2 (by decide) h
          · have := hI.b2; rw [h, g1] at this; injection this with this; injection this with _ this _; exact absurd this (by decide)
          · exact n2 h.symm
        · rw [hpre rfl, hsn, List.length_append, List.length_singleton, List.map_append]
          refine s3.chg c4 fun k hk e => ?_
          subst e
          obtain ⟨_, _, cur, fz, hh⟩ := s3.vb hk
          rw [h3c] at hh; cases hh
        · rcases v3 with h | ⟨k, h, hk⟩
          · rcases g3 with h5 | ⟨k5, h5, h6⟩
            · exact .inl (h.trans h5)
            · exact .inr ⟨k5, h.trans h5, h6⟩
          · exact .inr ⟨k, h, Nat.le_trans hI.chg.size hk⟩
        · rcases hk with (hk | rfl) | rfl
          · rcases g3 with h5 | ⟨k5, h5, h6⟩
            · exact .inr (.inr (h5.symm.trans hk))
            · rw [h5] at hk; cases hk; omega
          · exact .inr (.inl rfl)
          · exact .inl rfl)
      have HR := Lib.hid hr
      have HW3 := Lib.hid hW3
      have HW4 := Lib.hid hW4
      clear hI g1 g2 g3 hr hW3 q2 q3 s3 c3 v3 hvE hnv h3c h2c hW4 c4 h4c hc hsn hm hpre k1 k2 k3 k4
      generalize (rangeT M f t).length = nR at *
      gi_wp2_with (gi_at_builtin; refine wpListIn_append_runQ rfl rfl HR.out ?_)
      rw [← HW3.out, ← HW4.out]
      exact HFin.out
    · rw [if_neg hm] at hsn
      obtain ⟨W4, hW4⟩ : ∃ W4, W4 = W.setCell ⟨ca, 0, none⟩ (.int .i64 ((K : Int) + 1)) := ⟨_, rfl⟩
      have c4 : Chg (fun k => k = ca) W W4 := by rw [hW4]; exact Chg.setCell _ _ _ _ rfl
      have h4c : W4.heap[ca]? = some (intO ((K + 1 : Nat) : Int)) := by rw [hW4, setCell_head hI.b0 0 _, show ((K + 1 : Nat) : Int) = (K : Int) + 1 by omega]; rfl
      have HFin := Lib.hid (show ownPostG w'.heap.size (KeepP w0.heap.size w'.heap.size g) (RngI w0 w ca cf ct co L.length f t v L T) (fun _ _ _ => False) (pre ++ [⟨(xi, xs), hx⟩]) W .normal { tmps := #[], defers := [] } W4 from by
        have h' := H.out
        refine ⟨keepsFrom_ofP _ c4 fun k hk o ho => ?_, KeepP.chgT c4 (fun k hk => hk ▸ h'.2.1.1) hWs fun k hk cs E fz e => ?_, belowChg hI.below c4 hWs fun k hk _ => hk ▸ h'.2.1.1, ?_, c4.keep hI.b1 (Ne.symm n1), c4.keep hI.b2 (Ne.symm n2), ⟨_, c4.keep g1 (Ne.symm hcao), ?_, g3⟩, hI.chg.trans c4 fun k hk hlt => .inl hk⟩
        · subst hk
          rw [hI.b0] at ho; cases ho; rfl
        · subst hk
          rw [hI.b0] at e; cases e; exact ⟨by decide, by decide⟩
        · rw [h4c]
          congr 3
          rw [List.length_append, List.length_singleton, ← hK]; rfl
        · rw [hpre rfl, hsn]
          refine g2.chg c4 fun k hk e => ?_
          subst e
          obtain ⟨_, _, cur, fz, hh⟩ := g2.vb hk
          rw [hI.b0] at hh; cases hh)
      have HW4 := Lib.hid hW4
      clear hI g2 g3 hW4 c4 h4c hsn hpre
      generalize (rangeT M f t).length = nR at *
      by_cases h1 : f ≤ K
      · have d1 : decide ((f : Int) ≤ (K : Int)) = true := decide_eq_true (by omega)
        have d1' : decide (f ≤ K) = true := decide_eq_true h1
        have d2 : decide ((K : Int) ≤ t) = false := decide_eq_false (by omega)
        clear hm
        gi_wp2
        rw [← HW4.out]
        exact HFin.out
      · have d1 : decide ((f : Int) ≤ (K : Int)) = false := decide_eq_false (by omega)
        have d1' : decide (f ≤ K) = false := decide_eq_false h1
        clear hm
        gi_wp2
        rw [← HW4.out]
        exact HFin.out
  case done =>
    rintro D xs W hD hxs hI hK
    obtain ⟨v1, g1, g2, g3⟩ := hI.got
    have hmap : xs.map (fun x => x.1.2) = T := by
      have e := congrArg (List.map Prod.snd) hxs
      rw [List.map_map] at e
      have h2 : (toldP T).map Prod.snd = T := by
        apply List.ext_getElem
        · simp
        · intro i h3 h4
          simp only [List.length_map, toldP_length] at h3
          simp [toldP, List.getD, h3]
      rw [h2] at e
      exact e
    have hlen : xs.length = T.length := by have := congrArg List.length hmap; simpa using this
    rw [hmap] at g2
    have b0 := hI.b0
    rw [hlen] at b0
    have x0 := cell_in b0 (i := 0) rfl
    have x2 := cell_in hI.b2 (i := 0) rfl
    have hg := grownBy_putObj' W D (.deferred none)
    have hr : ∀ r, some D = some r → ∃ o : Obj, W.heap[r]? = some o ∧ o.isCells = false := fun r e => by cases e; exact ⟨_, hK, rfl⟩
    have HFin := Lib.hid (show ((W.putObj D (.deferred none)).heap[ca]? = some (intO ((L.length + T.length : Nat) : Int)) ∧ (W.putObj D (.deferred none)).heap[cf]? = some (intO f) ∧ (W.putObj D (.deferred none)).heap[ct]? = some (intO t) ∧ (∃ v', (W.putObj D (.deferred none)).heap[co]? = some (.cells #[v'] 22 (0, 0)) ∧ SliceIs (W.putObj D (.deferred none)) w0.heap.size 9 v' (rangeT (L ++ T) f t).length ((rangeT (L ++ T) f t).map strV)) ∧ Chg (fun k => k = ca ∨ k = co ∨ vblock v = some k) w (W.putObj D (.deferred none))) ∧ W.heap[D]? = some (.deferred (some [])) from by
      refine ⟨⟨grown_keepP hg hr b0, grown_keepP hg hr hI.b1, grown_keepP hg hr hI.b2, ⟨v1, grown_keepP hg hr g1, g2.ownQ hg hr⟩, ?_⟩, hK⟩
      refine hI.chg.trans (S' := fun k => k = D) ⟨hg.os, hg.tape, hg.output, hg.size, fun k hk hn => hg.block k hk fun e => hn (by cases e; rfl)⟩ fun k hk hlt => ?_
      subst hk
      have := HW5.out.2
      omega)
    clear hI g1 g2 g3 hmap hlen b0 hg hr hK hxs
    obtain ⟨N, hN⟩ : ∃ N, L.length + T.length = N := ⟨_, rfl⟩
    rw [hN] at x0 HFin hLm
    have HN := Lib.hid hN
    clear hN
    go_wp2_with fail
    refine ⟨by simp, .inl ⟨_, _, rfl, run_takeDeferred HFin.out.2, ?_⟩⟩
    refine ⟨_, results_tmp rfl _ _ _, ?_⟩
    rw [HN.out]
    exact ⟨rfl, HFin.out.1⟩
  case stop =>
    rintro D c pre W hD hpre hX hK
    exact hX.elim
end Go.Proofs.YtlecnlnpgghmbaaGreatDoor

/- quick: Range. -/
namespace Go.Proofs.YtlecnlnpgghmbaaGreatDoor
set_option linter.unusedVariables false
set_option linter.unusedSimpArgs false
open Go.RowKit Go.Shelf
/-- From where on, up to where. -/
def rfN (n : Nat) (a : Int) : Nat := if a < 0 then (a + n).toNat else a.toNat
def rtN (n : Nat) (b : Int) : Int := if b < 0 then b + n else b
set_option maxRecDepth 100000 in
/-- The loop over all packs. -/
theorem range_each {w w7 : World} (hl : Laid w) {q : Nat} {Ns : List Nd} {n : Int} (h : QRow w q Ns n) {ca cf ct co f : Nat} {t : Int} (hb : Below w.heap.size w w7) (hfn : (flatN Ns).length ≤ 1000000000)
    (h0 : w7.heap[ca]? = some (intO 0)) (h1 : w7.heap[cf]? = some (intO f)) (h2 : w7.heap[ct]? = some (intO t)) (h3 : w7.heap[co]? = some (.cells #[.slice none 0 0] 22 (0, 0)))
    (n1 : ca ≠ cf) (n2 : ca ≠ ct) (na : w.heap.size ≤ ca) (no : w.heap.size ≤ co) (hfm : f ≤ 9223372036854775807) (htm : -9223372036854775808 ≤ t ∧ t ≤ 9223372036854775807) :
    Calls Tryz.prog 100 #[pv q, .func (.func 177) #[] #[pv ca, pv cf, pv ct, pv co]] w7 fun e w' => (∃ v, e = .returned v) ∧ Below w.heap.size w w' ∧
      ∃ v, w'.heap[co]? = some (.cells #[v] 22 (0, 0)) ∧ SliceIs w' w.heap.size 9 v (rangeT (flatN Ns) f t).length ((rangeT (flatN Ns) f t).map strV) := by
  refine (each_any 177 #[pv ca, pv cf, pv ct, pv co] (w := w7) (q := q) (Ns := Ns) (n := n)
    (fun A w' => Below w.heap.size w w' ∧ w'.heap[ca]? = some (intO ((flatN A).length : Nat)) ∧ w'.heap[cf]? = some (intO f) ∧ w'.heap[ct]? = some (intO t) ∧ ∃ v, w'.heap[co]? = some (.cells #[v] 22 (0, 0)) ∧ SliceIs w' w.heap.size 9 v (rangeT (flatN A) f t).length ((rangeT (flatN A) f t).map strV))
    (fun w' => Below w.heap.size w w' ∧ ∃ v, w'.heap[co]? = some (.cells #[v] 22 (0, 0)) ∧ SliceIs w' w.heap.size 9 v (rangeT (flatN Ns) f t).length ((rangeT (flatN Ns) f t).map strV))
    (fun _ _ => rfl) (fun A w' hI => h.below hI.1) (fun A nd B hAB w' hI => ?_) ⟨hb, h0, h1, h2, _, h3, by rw [show flatN [] = [] from rfl, rangeT_nil]; exact SliceIs.nil _ _ _⟩).mono fun e w' ⟨hv, hp⟩ => ⟨hv, ?_⟩
  · obtain ⟨i1, i2, i3, i4, v, i5, i6⟩ := hI
    have hq := h.below i1
    rw [hAB] at hq
    have hsz : w.heap.size ≤ w'.heap.size := i1.size
    have hfl : flatN Ns = flatN A ++ nd.T ++ flatN B := by rw [hAB, flat_append, flat_cons, List.append_assoc]
    have hlen : (flatN A).length + nd.T.length ≤ 1000000000 := by rw [hfl, List.length_append, List.length_append] at hfn; omega
    refine (range1_any hl i1 hsz hq.node (hq.packs nd (by simp)) i2 i3 i4 i5 i6 n1 n2 na no hlen hfm htm).mono fun e w'' ⟨he, j1, j2, j3, ⟨v', j4, j5⟩, hc⟩ => ?_
    have hb' : Below w.heap.size w w'' := belowChg i1 hc hsz fun k hk _ => by
      rcases hk with rfl | rfl | hk
      · exact na
      · exact no
      · exact (i6.vb hk).1
    by_cases hd : (((flatN A).length + nd.T.length : Nat) : Int) ≤ t
    · refine .inl ⟨by rw [he, decide_eq_true hd], hb', ?_, j2, j3, v', j4, ?_⟩
      · rw [flat_append, flat_cons, flat_nil, List.append_nil, List.length_append]; exact j1
      · rw [flat_append, flat_cons, flat_nil, List.append_nil]; exact j5
    · refine .inr ⟨by rw [he, decide_eq_false hd], hb', v', j4, ?_⟩
      rw [hfl, rangeT_far (flatN A ++ nd.T) (flatN B) f t (by rw [List.length_append]; omega)]
      exact j5
  · rcases hp with ⟨i1, _, _, _, i5⟩ | hp
    · exact ⟨i1, i5⟩
    · exact hp
set_option maxHeartbeats 6400000 in
set_option maxRecDepth 100000 in
theorem quickRange {w : World} (hl : Laid w) {q : Nat} {F : Nat → Prop} {L : List ByteArray} (h : QuickF w q F L) (hn : L.length ≤ 1000000000) (a b : Int) (ha : -9223372036854775808 ≤ a ∧ a ≤ 9223372036854775807) (hb : -9223372036854775808 ≤ b ∧ b ≤ 9223372036854775807) :
    Calls Tryz.prog 176 #[pv q, .int .i64 a, .int .i64 b] w fun e w' => (∃ v, e = .returned v ∧ SliceIs w' w.heap.size 9 v (rangeT L (rfN L.length a) (rtN L.length b)).length ((rangeT L (rfN L.length a) (rtN L.length b)).map strV)) ∧ Below w.heap.size w w' := by
  obtain ⟨Ns, h1, h2, rfl, h4⟩ := h
  obtain ⟨w3, hw3⟩ : ∃ w3, w3 = ((w.alloc (.cells #[.int .i64 a] 3)).alloc (.cells #[.int .i64 b] 3)).alloc (.cells #[.slice none 0 0] 22) := ⟨_, rfl⟩
  have e1 : w3.heap[w.heap.size]? = some (intO a) := by rw [hw3]; exact heap_old (heap_old (heap_new w _) _) _
  have e2 : w3.heap[w.heap.size + 1]? = some (intO b) := by
    have := heap_old (heap_new (w.alloc (.cells #[.int .i64 a] 3)) (.cells #[.int .i64 b] 3)) (.cells #[.slice none 0 0] 22)
    rw [World.size_alloc] at this
    rw [hw3]; exact this
  have e3 : w3.heap[w.heap.size + 1 + 1]? = some (.cells #[.slice none 0 0] 22 (0, 0)) := by
    have := heap_new ((w.alloc (.cells #[.int .i64 a] 3)).alloc (.cells #[.int .i64 b] 3)) (.cells #[.slice none 0 0] 22)
    rw [World.size_alloc, World.size_alloc] at this
    rw [hw3]; exact this
  have hb3 : Below w.heap.size w w3 := by rw [hw3]; exact (((Below.refl w.heap.size w).alloc (Nat.le_refl _) _).alloc (by simp) _).alloc (by simp; omega) _
  have hs3 : w3.heap.size = w.heap.size + 3 := by rw [hw3]; simp
  have hrt : rtN (flatN Ns).length b = if b < 0 then b + ((flatN Ns).length : Nat) else b := rfl
  obtain ⟨n, hnn⟩ : ∃ n, (flatN Ns).length = n := ⟨_, rfl⟩
  rw [hnn] at h1 hn hrt ⊢
  have HL := Lib.hid (qlen_any (h1.below hb3))
  -- the cells behind the bounds' making
  have HM := Lib.hid (show ∀ (fv tv : Int) (w5 : World), Chg (fun k => k = w.heap.size ∨ k = w.heap.size + 1) w3 w5 → w5.heap[w.heap.size]? = some (intO fv) → w5.heap[w.heap.size + 1]? = some (intO tv) → fv = (rfN n a : Nat) → tv = rtN n b →
      Calls Tryz.prog 100 #[pv q, .func (.func 177) #[] #[pv w5.heap.size, pv w.heap.size, pv (w.heap.size + 1), pv (w.heap.size + 1 + 1)]] (w5.alloc (.cells #[.int .i64 0] 3)) fun e w' => (∃ v, e = .returned v) ∧ Below w.heap.size w w' ∧
      ∃ v, w'.heap[w.heap.size + 1 + 1]? = some (.cells #[v] 22 (0, 0)) ∧ SliceIs w' w.heap.size 9 v (rangeT (flatN Ns) (rfN n a) (rtN n b)).length ((rangeT (flatN Ns) (rfN n a) (rtN n b)).map strV) from fun fv tv w5 hc g1 g2 hf ht => by
    have hsz := hc.size
    have hb5 : Below w.heap.size w w5 := belowChg hb3 hc (by omega) fun k hk _ => by omega
    have hb7 : Below w.heap.size w (w5.alloc (.cells #[.int .i64 0] 3)) := hb5.alloc (by omega) _
    have k5 : ∀ {c : Nat} {o : Obj}, w5.heap[c]? = some o → (w5.alloc (.cells #[.int .i64 0] 3)).heap[c]? = some o := fun {c o} e => heap_old e _
    have hf1 : rfN n a ≤ 9223372036854775807 := by unfold rfN; split <;> omega
    have ht1 : -9223372036854775808 ≤ rtN n b ∧ rtN n b ≤ 9223372036854775807 := by unfold rtN; split <;> omega
    rw [hf] at g1
    rw [ht] at g2
    exact range_each hl h1 hb7 (by omega) (heap_new w5 _) (k5 g1) (k5 g2) (k5 (hc.keep e3 (by omega))) (by omega) (by omega) (by omega) (by omega) hf1 ht1)
  have x1 := cell_in e1 (i := 0) rfl
  have x2 := cell_in e2 (i := 0) rfl
  have f1 := frozen_in e1 0
  have f2 := frozen_in e2 0
  have HE := Lib.hid (And.intro e1 (And.intro e2 hs3))
  have HW3 := Lib.hid hw3
  clear hw3 e1 e2 e3 hb3 h1 h2 h4 hl hrt hnn hs3
  by_cases ha0 : 0 ≤ a
  · have da : decide (a < 0) = false := decide_eq_false (by omega)
    by_cases hb0 : 0 ≤ b
    · have db : decide (b < 0) = false := decide_eq_false (by omega)
      obtain ⟨w5, hw5⟩ : ∃ w5, w5 = w3 := ⟨_, rfl⟩
      have HM5 := Lib.hid (HM.out a b w5 (by rw [hw5]; exact Chg.refl _ _) (by rw [hw5]; exact HE.out.1) (by rw [hw5]; exact HE.out.2.1) (by unfold rfN; rw [if_neg (by omega)]; omega) (by unfold rtN; rw [if_neg (by omega)]))
      have HW5 := Lib.hid hw5
      clear hw5 HM
      go_enter Tryz.func176, Tryz.ntmps176
      go_upto_region 1 with (fail)
      rw [← HW3.out]
      go_wp2_with fail
      refine HL.out.mono ?_
      rintro e w' ⟨rfl, rfl⟩
      go_upto_region 6 with (fail)
      rw [show w3 = w5 from HW5.out.symm]
      go_wp2_with fail
      refine HM5.out.mono ?_
      rintro e w8 ⟨⟨v, rfl⟩, hbl, v8, g8, s8⟩
      obtain ⟨a8, c8, rfl, _⟩ := s8.arg
      have y8 := cell_in g8 (i := 0) rfl
      have z8 := frozen_in g8 0
      obtain ⟨w9, hw9⟩ : ∃ w9, w9 = w8.setCell ⟨w.heap.size + 1 + 1, 0, none⟩ (.slice a8 (rangeT (flatN Ns) (rfN n a) (rtN n b)).length c8) := ⟨_, rfl⟩
      have HR := Lib.hid (show w9.cell? ⟨w.heap.size + 1 + 1, 0, none⟩ = some (.slice a8 (rangeT (flatN Ns) (rfN n a) (rtN n b)).length c8) ∧ SliceIs w9 w.heap.size 9 (.slice a8 (rangeT (flatN Ns) (rfN n a) (rtN n b)).length c8) (rangeT (flatN Ns) (rfN n a) (rtN n b)).length ((rangeT (flatN Ns) (rfN n a) (rtN n b)).map strV) ∧ Below w.heap.size w w9 from by
        have hc9 : Chg (fun k => k = w.heap.size + 1 + 1) w8 w9 := by rw [hw9]; exact Chg.setCell _ _ _ _ rfl
        refine ⟨by rw [hw9]; exact cell_in (setCell_head g8 0 _) rfl, s8.chg hc9 fun k hk e => ?_, belowChg hbl hc9 hbl.size fun k hk _ => by omega⟩
        subst e
        obtain ⟨_, _, cur, fz, hh⟩ := s8.vb hk
        rw [g8] at hh
        injection hh with hh
        injection hh with _ hh _
        exact absurd hh (by decide))
      have HW9 := Lib.hid hw9
      clear hw9 g8 s8 hbl HM5
      go_wp2_with fail
      rw [← HW9.out]
      refine bodyPost_ret (v := .slice a8 (rangeT (flatN Ns) (rfN n a) (rtN n b)).length c8) (by have h1 := HR.out.1; simp [results, Tryz.results176, go_sem, h1]) rfl ⟨⟨_, rfl, ?_⟩, HR.out.2.2⟩
      exact HR.out.2.1
    · have db : decide (b < 0) = true := decide_eq_true (by omega)
      obtain ⟨w5, hw5⟩ : ∃ w5, w5 = (w3.setCell ⟨w.heap.size + 1, 0, none⟩ (.int .i64 (b + (n : Int)))) := ⟨_, rfl⟩
      have HM5 := Lib.hid (HM.out a (b + (n : Int)) w5 (by rw [hw5]; exact (Chg.setCell (fun k => k = w.heap.size ∨ k = w.heap.size + 1) w3 ⟨w.heap.size + 1, 0, none⟩ _ (.inr rfl))) (by rw [hw5]; exact (Chg.setCell (fun k => k = w.heap.size + 1) w3 ⟨w.heap.size + 1, 0, none⟩ _ rfl).keep (HE.out.1) (by omega)) (by rw [hw5]; exact setCell_head (HE.out.2.1) 0 _) (by unfold rfN; rw [if_neg (by omega)]; omega) (by unfold rtN; rw [if_pos (by omega)]))
      have HW5 := Lib.hid hw5
      clear hw5 HM
      go_enter Tryz.func176, Tryz.ntmps176
      go_upto_region 1 with (fail)
      rw [← HW3.out]
      go_wp2_with fail
      refine HL.out.mono ?_
      rintro e w' ⟨rfl, rfl⟩
      go_upto_region 6 with (fail)
      rw [← HW5.out]
      go_wp2_with fail
      refine HM5.out.mono ?_
      rintro e w8 ⟨⟨v, rfl⟩, hbl, v8, g8, s8⟩
      obtain ⟨a8, c8, rfl, _⟩ := s8.arg
      have y8 := cell_in g8 (i := 0) rfl
      have z8 := frozen_in g8 0
      obtain ⟨w9, hw9⟩ : ∃ w9, w9 = w8.setCell ⟨w.heap.size + 1 + 1, 0, none⟩ (.slice a8 (rangeT (flatN Ns) (rfN n a) (rtN n b)).length c8) := ⟨_, rfl⟩
      have HR := Lib.hid (show w9.cell? ⟨w.heap.size + 1 + 1, 0, none⟩ = some (.slice a8 (rangeT (flatN Ns) (rfN n a) (rtN n b)).length c8) ∧ SliceIs w9 w.heap.size 9 (.slice a8 (rangeT (flatN Ns) (rfN n a) (rtN n b)).length c8) (rangeT (flatN Ns) (rfN n a) (rtN n b)).length ((rangeT (flatN Ns) (rfN n a) (rtN n b)).map strV) ∧ Below w.heap.size w w9 from by
        have hc9 : Chg (fun k => k = w.heap.size + 1 + 1) w8 w9 := by rw [hw9]; exact Chg.setCell _ _ _ _ rfl
        refine ⟨by rw [hw9]; exact cell_in (setCell_head g8 0 _) rfl, s8.chg hc9 fun k hk e => ?_, belowChg hbl hc9 hbl.size fun k hk _ => by omega⟩
        subst e
        obtain ⟨_, _, cur, fz, hh⟩ := s8.vb hk
        rw [g8] at hh
        injection hh with hh
        injection hh with _ hh _
        exact absurd hh (by decide))
      have HW9 := Lib.hid hw9
      clear hw9 g8 s8 hbl HM5
      go_wp2_with fail
      rw [← HW9.out]
      refine bodyPost_ret (v := .slice a8 (rangeT (flatN Ns) (rfN n a) (rtN n b)).length c8) (by have h1 := HR.out.1; simp [results, Tryz.results176, go_sem, h1]) rfl ⟨⟨_, rfl, ?_⟩, HR.out.2.2⟩
      exact HR.out.2.1
  · have da : decide (a < 0) = true := decide_eq_true (by omega)
    by_cases ha1 : 0 ≤ a + (n : Int)
    · have hmx : max (a + (n : Int)) 0 = a + (n : Int) := by omega
      by_cases hb0 : 0 ≤ b
      · have db : decide (b < 0) = false := decide_eq_false (by omega)
        obtain ⟨w5, hw5⟩ : ∃ w5, w5 = (w3.setCell ⟨w.heap.size, 0, none⟩ (.int .i64 (a + (n : Int)))) := ⟨_, rfl⟩
        have HM5 := Lib.hid (HM.out (a + (n : Int)) b w5 (by rw [hw5]; exact (Chg.setCell (fun k => k = w.heap.size ∨ k = w.heap.size + 1) w3 ⟨w.heap.size, 0, none⟩ _ (.inl rfl))) (by rw [hw5]; exact setCell_head HE.out.1 0 _) (by rw [hw5]; exact (Chg.setCell (fun k => k = w.heap.size) w3 ⟨w.heap.size, 0, none⟩ _ rfl).keep HE.out.2.1 (by omega)) (by unfold rfN; rw [if_pos (by omega)]; omega) (by unfold rtN; rw [if_neg (by omega)]))
        have HW5 := Lib.hid hw5
        clear hw5 HM
        go_enter Tryz.func176, Tryz.ntmps176
        go_upto_region 1 with (fail)
        rw [← HW3.out]
        go_wp2_with fail
        refine HL.out.mono ?_
        rintro e w' ⟨rfl, rfl⟩
        go_upto_region 6 with (fail)
        rw [← HW5.out]
        go_wp2_with fail
        refine HM5.out.mono ?_
        rintro e w8 ⟨⟨v, rfl⟩, hbl, v8, g8, s8⟩
        obtain ⟨a8, c8, rfl, _⟩ := s8.arg
        have y8 := cell_in g8 (i := 0) rfl
        have z8 := frozen_in g8 0
        obtain ⟨w9, hw9⟩ : ∃ w9, w9 = w8.setCell ⟨w.heap.size + 1 + 1, 0, none⟩ (.slice a8 (rangeT (flatN Ns) (rfN n a) (rtN n b)).length c8) := ⟨_, rfl⟩
        have HR := Lib.hid (show w9.cell? ⟨w.heap.size + 1 + 1, 0, none⟩ = some (.slice a8 (rangeT (flatN Ns) (rfN n a) (rtN n b)).length c8) ∧ SliceIs w9 w.heap.size 9 (.slice a8 (rangeT (flatN Ns) (rfN n a) (rtN n b)).length c8) (rangeT (flatN Ns) (rfN n a) (rtN n b)).length ((rangeT (flatN Ns) (rfN n a) (rtN n b)).map strV) ∧ Below w.heap.size w w9 from by
          have hc9 : Chg (fun k => k = w.heap.size + 1 + 1) w8 w9 := by rw [hw9]; exact Chg.setCell _ _ _ _ rfl
          refine ⟨by rw [hw9]; exact cell_in (setCell_head g8 0 _) rfl, s8.chg hc9 fun k hk e => ?_, belowChg hbl hc9 hbl.size fun k hk _ => by omega⟩
          subst e
          obtain ⟨_, _, cur, fz, hh⟩ := s8.vb hk
          rw [g8] at hh
          injection hh with hh
          injection hh with _ hh _
          exact absurd hh (by decide))
        have HW9 := Lib.hid hw9
        clear hw9 g8 s8 hbl HM5
        go_wp2_with fail
        rw [← HW9.out]
        refine bodyPost_ret (v := .slice a8 (rangeT (flatN Ns) (rfN n a) (rtN n b)).length c8) (by have h1 := HR.out.1; simp [results, Tryz.results176, go_sem, h1]) rfl ⟨⟨_, rfl, ?_⟩, HR.out.2.2⟩
        exact HR.out.2.1
      · have db : decide (b < 0) = true := decide_eq_true (by omega)
        obtain ⟨w5, hw5⟩ : ∃ w5, w5 = ((w3.setCell ⟨w.heap.size, 0, none⟩ (.int .i64 (a + (n : Int)))).setCell ⟨w.heap.size + 1, 0, none⟩ (.int .i64 (b + (n : Int)))) := ⟨_, rfl⟩
        have HM5 := Lib.hid (HM.out (a + (n : Int)) (b + (n : Int)) w5 (by rw [hw5]; exact Chg.trans (Chg.setCell (fun k => k = w.heap.size ∨ k = w.heap.size + 1) w3 ⟨w.heap.size, 0, none⟩ _ (.inl rfl)) (Chg.setCell (fun k => k = w.heap.size ∨ k = w.heap.size + 1) (w3.setCell ⟨w.heap.size, 0, none⟩ (.int .i64 (a + (n : Int)))) ⟨w.heap.size + 1, 0, none⟩ _ (.inr rfl)) fun k hk _ => hk) (by rw [hw5]; exact (Chg.setCell (fun k => k = w.heap.size + 1) (w3.setCell ⟨w.heap.size, 0, none⟩ (.int .i64 (a + (n : Int)))) ⟨w.heap.size + 1, 0, none⟩ _ rfl).keep (setCell_head HE.out.1 0 _) (by omega)) (by rw [hw5]; exact setCell_head ((Chg.setCell (fun k => k = w.heap.size) w3 ⟨w.heap.size, 0, none⟩ _ rfl).keep HE.out.2.1 (by omega)) 0 _) (by unfold rfN; rw [if_pos (by omega)]; omega) (by unfold rtN; rw [if_pos (by omega)]))
        have HW5 := Lib.hid hw5
        clear hw5 HM
        go_enter Tryz.func176, Tryz.ntmps176
        go_upto_region 1 with (fail)
        rw [← HW3.out]
        go_wp2_with fail
        refine HL.out.mono ?_
        rintro e w' ⟨rfl, rfl⟩
        go_upto_region 6 with (fail)
        rw [← HW5.out]
        go_wp2_with fail
        refine HM5.out.mono ?_
        rintro e w8 ⟨⟨v, rfl⟩, hbl, v8, g8, s8⟩
        obtain ⟨a8, c8, rfl, _⟩ := s8.arg
        have y8 := cell_in g8 (i := 0) rfl
        have z8 := frozen_in g8 0
        obtain ⟨w9, hw9⟩ : ∃ w9, w9 = w8.setCell ⟨w.heap.size + 1 + 1, 0, none⟩ (.slice a8 (rangeT (flatN Ns) (rfN n a) (rtN n b)).length c8) := ⟨_, rfl⟩
        have HR := Lib.hid (show w9.cell? ⟨w.heap.size + 1 + 1, 0, none⟩ = some (.slice a8 (rangeT (flatN Ns) (rfN n a) (rtN n b)).length c8) ∧ SliceIs w9 w.heap.size 9 (.slice a8 (rangeT (flatN Ns) (rfN n a) (rtN n b)).length c8) (rangeT (flatN Ns) (rfN n a) (rtN n b)).length ((rangeT (flatN Ns) (rfN n a) (rtN n b)).map strV) ∧ Below w.heap.size w w9 from by
          have hc9 : Chg (fun k => k = w.heap.size + 1 + 1) w8 w9 := by rw [hw9]; exact Chg.setCell _ _ _ _ rfl
          refine ⟨by rw [hw9]; exact cell_in (setCell_head g8 0 _) rfl, s8.chg hc9 fun k hk e => ?_, belowChg hbl hc9 hbl.size fun k hk _ => by omega⟩
          subst e
          obtain ⟨_, _, cur, fz, hh⟩ := s8.vb hk
          rw [g8] at hh
          injection hh with hh
          injection hh with _ hh _
          exact absurd hh (by decide))
        have HW9 := Lib.hid hw9
        clear hw9 g8 s8 hbl HM5
        go_wp2_with fail
        rw [← HW9.out]
        refine bodyPost_ret (v := .slice a8 (rangeT (flatN Ns) (rfN n a) (rtN n b)).length c8) (by have h1 := HR.out.1; simp [results, Tryz.results176, go_sem, h1]) rfl ⟨⟨_, rfl, ?_⟩, HR.out.2.2⟩
        exact HR.out.2.1
    · have hmx : max (a + (n : Int)) 0 = 0 := by omega
      by_cases hb0 : 0 ≤ b
      · have db : decide (b < 0) = false := decide_eq_false (by omega)
        obtain ⟨w5, hw5⟩ : ∃ w5, w5 = (w3.setCell ⟨w.heap.size, 0, none⟩ (.int .i64 0)) := ⟨_, rfl⟩
        have HM5 := Lib.hid (HM.out 0 b w5 (by rw [hw5]; exact (Chg.setCell (fun k => k = w.heap.size ∨ k = w.heap.size + 1) w3 ⟨w.heap.size, 0, none⟩ _ (.inl rfl))) (by rw [hw5]; exact setCell_head HE.out.1 0 _) (by rw [hw5]; exact (Chg.setCell (fun k => k = w.heap.size) w3 ⟨w.heap.size, 0, none⟩ _ rfl).keep HE.out.2.1 (by omega)) (by unfold rfN; rw [if_pos (by omega)]; omega) (by unfold rtN; rw [if_neg (by omega)]))
        have HW5 := Lib.hid hw5
        clear hw5 HM
        go_enter Tryz.func176, Tryz.ntmps176
        go_upto_region 1 with (fail)
        rw [← HW3.out]
        go_wp2_with fail
        refine HL.out.mono ?_
        rintro e w' ⟨rfl, rfl⟩
        go_upto_region 6 with (fail)
        rw [← HW5.out]
        go_wp2_with fail
        refine HM5.out.mono ?_
        rintro e w8 ⟨⟨v, rfl⟩, hbl, v8, g8, s8⟩
        obtain ⟨a8, c8, rfl, _⟩ := s8.arg
        have y8 := cell_in g8 (i := 0) rfl
        have z8 := frozen_in g8 0
        obtain ⟨w9, hw9⟩ : ∃ w9, w9 = w8.setCell ⟨w.heap.size + 1 + 1, 0, none⟩ (.slice a8 (rangeT (flatN Ns) (rfN n a) (rtN n b)).length c8) := ⟨_, rfl⟩
        have HR := Lib.hid (show w9.cell? ⟨w.heap.size + 1 + 1, 0, none⟩ = some (.slice a8 (rangeT (flatN Ns) (rfN n a) (rtN n b)).length c8) ∧ SliceIs w9 w.heap.size 9 (.slice a8 (rangeT (flatN Ns) (rfN n a) (rtN n b)).length c8) (rangeT (flatN Ns) (rfN n a) (rtN n b)).length ((rangeT (flatN Ns) (rfN n a) (rtN n b)).map strV) ∧ Below w.heap.size w w9 from by
          have hc9 : Chg (fun k => k = w.heap.size + 1 + 1) w8 w9 := by rw [hw9]; exact Chg.setCell _ _ _ _ rfl
          refine ⟨by rw [hw9]; exact cell_in (setCell_head g8 0 _) rfl, s8.chg hc9 fun k hk e => ?_, belowChg hbl hc9 hbl.size fun k hk _ => by omega⟩
          subst e
          obtain ⟨_, _, cur, fz, hh⟩ := s8.vb hk
          rw [g8] at hh
          injection hh with hh
          injection hh with _ hh _
          exact absurd hh (by decide))
        have HW9 := Lib.hid hw9
        clear hw9 g8 s8 hbl HM5
        go_wp2_with fail
        rw [← HW9.out]
        refine bodyPost_ret (v := .slice a8 (rangeT (flatN Ns) (rfN n a) (rtN n b)).length c8) (by have h1 := HR.out.1; simp [results, Tryz.results176, go_sem, h1]) rfl ⟨⟨_, rfl, ?_⟩, HR.out.2.2⟩
        exact HR.out.2.1
      · have db : decide (b < 0) = true := decide_eq_true (by omega)
        obtain ⟨w5, hw5⟩ : ∃ w5, w5 = ((w3.setCell ⟨w.heap.size, 0, none⟩ (.int .i64 0)).setCell ⟨w.heap.size + 1, 0, none⟩ (.int .i64 (b + (n : Int)))) := ⟨_, rfl⟩
        have HM5 := Lib.hid (HM.out 0 (b + (n : Int)) w5 (by rw [hw5]; exact Chg.trans (Chg.setCell (fun k => k = w.heap.size ∨ k = w.heap.size + 1) w3 ⟨w.heap.size, 0, none⟩ _ (.inl rfl)) (Chg.setCell (fun k => k = w.heap.size ∨ k = w.heap.size + 1) (w3.setCell ⟨w.heap.size, 0, none⟩ (.int .i64 0)) ⟨w.heap.size + 1, 0, none⟩ _ (.inr rfl)) fun k hk _ => hk) (by rw [hw5]; exact (Chg.setCell (fun k => k = w.heap.size + 1) (w3.setCell ⟨w.heap.size, 0, none⟩ (.int .i64 0)) ⟨w.heap.size + 1, 0, none⟩ _ rfl).keep (setCell_head HE.out.1 0 _) (by omega)) (by rw [hw5]; exact setCell_head ((Chg.setCell (fun k => k = w.heap.size) w3 ⟨w.heap.size, 0, none⟩ _ rfl).keep HE.out.2.1 (by omega)) 0 _) (by unfold rfN; rw [if_pos (by omega)]; omega) (by unfold rtN; rw [if_pos (by omega)]))
        have HW5 := Lib.hid hw5
        clear hw5 HM
        go_enter Tryz.func176, Tryz.ntmps176
        go_upto_region 1 with (fail)
        rw [← HW3.out]
        go_wp2_with fail
        refine HL.out.mono ?_
        rintro e w' ⟨rfl, rfl⟩
        go_upto_region 6 with (fail)
        rw [← HW5.out]
        go_wp2_with fail
        refine HM5.out.mono ?_
        rintro e w8 ⟨⟨v, rfl⟩, hbl, v8, g8, s8⟩
        obtain ⟨a8, c8, rfl, _⟩ := s8.arg
        have y8 := cell_in g8 (i := 0) rfl
        have z8 := frozen_in g8 0
        obtain ⟨w9, hw9⟩ : ∃ w9, w9 = w8.setCell ⟨w.heap.size + 1 + 1, 0, none⟩ (.slice a8 (rangeT (flatN Ns) (rfN n a) (rtN n b)).length c8) := ⟨_, rfl⟩
        have HR := Lib.hid (show w9.cell? ⟨w.heap.size + 1 + 1, 0, none⟩ = some (.slice a8 (rangeT (flatN Ns) (rfN n a) (rtN n b)).length c8) ∧ SliceIs w9 w.heap.size 9 (.slice a8 (rangeT (flatN Ns) (rfN n a) (rtN n b)).length c8) (rangeT (flatN Ns) (rfN n a) (rtN n b)).length ((rangeT (flatN Ns) (rfN n a) (rtN n b)).map strV) ∧ Below w.heap.size w w9 from by
          have hc9 : Chg (fun k => k = w.heap.size + 1 + 1) w8 w9 := by rw [hw9]; exact Chg.setCell _ _ _ _ rfl
          refine ⟨by rw [hw9]; exact cell_in (setCell_head g8 0 _) rfl, s8.chg hc9 fun k hk e => ?_, belowChg hbl hc9 hbl.size fun k hk _ => by omega⟩
          subst e
          obtain ⟨_, _, cur, fz, hh⟩ := s8.vb hk
          rw [g8] at hh
          injection hh with hh
          injection hh with _ hh _
          exact absurd hh (by decide))
        have HW9 := Lib.hid hw9
        clear hw9 g8 s8 hbl HM5
        go_wp2_with fail
        rw [← HW9.out]
        refine bodyPost_ret (v := .slice a8 (rangeT (flatN Ns) (rfN n a) (rtN n b)).length c8) (by have h1 := HR.out.1; simp [results, Tryz.results176, go_sem, h1]) rfl ⟨⟨_, rfl, ?_⟩, HR.out.2.2⟩
        exact HR.out.2.1
end Go.Proofs.YtlecnlnpgghmbaaGreatDoor

/- list: a list in memory; gone, Len, Get, New. -/
namespace Go.Proofs.YtlecnlnpgghmbaaGreatDoor
set_option linter.unusedVariables false
set_option linter.unusedSimpArgs false
open Go.RowKit
/-- The row's interface value, small or great. -/
def smallV (p : Nat) : Value := .iface 82 (.agg #[pv p])
def greatV (q : Nat) : Value := .iface 155 (.agg #[pv q])
set_option maxHeartbeats 800000 in
set_option maxRecDepth 100000 in
theorem gone_any {w : World} {l p : Nat} (h : w.heap[l]? = some (.cells #[smallV p] 39 (0, 0))) :
    Calls Tryz.prog 70 #[pv l] w fun e w' => e = .returned (.bool false) ∧ w = w' := by
  have c0 := cell_in h (i := 0) rfl
  clear h
  unfold smallV at c0
  go_enter Tryz.func70, Tryz.ntmps70
  go_wp2_with fail
  go_ret
  exact ⟨rfl, rfl⟩
set_option maxHeartbeats 800000 in
set_option maxRecDepth 100000 in
theorem len_small {w : World} {l p : Nat} (h : w.heap[l]? = some (.cells #[smallV p] 39 (0, 0))) {F : Nat → Prop} {L : List ByteArray} (hp : PackF w p F L) :
    Calls Tryz.prog 34 #[pv l] w fun e w' => e = .returned (.int .i64 L.length) ∧ w = w' := by
  have HG := Lib.hid (gone_any h)
  have HL := Lib.hid (packLen hp)
  have c0 := cell_in h (i := 0) rfl
  clear h hp
  unfold smallV at c0
  go_enter Tryz.func34, Tryz.ntmps34
  go_wp2_with fail
  refine HG.out.mono ?_
  rintro e w' ⟨rfl, rfl⟩
  go_wp2_with fail
  refine HL.out.mono ?_
  rintro e w' ⟨rfl, rfl⟩
  go_wp2_with fail
  go_ret
  exact ⟨rfl, rfl⟩
end Go.Proofs.YtlecnlnpgghmbaaGreatDoor

/- law 8: lists of numbers compared; a row filled. -/
namespace Go.Proofs.YtlecnlnpgghmbaaGreatDoor
set_option linter.unusedVariables false
set_option linter.unusedSimpArgs false
open Go.RowKit
end Go.Proofs.YtlecnlnpgghmbaaGreatDoor

/- law 8: a row filled. -/
namespace Go.Proofs.YtlecnlnpgghmbaaGreatDoor
set_option linter.unusedVariables false
set_option linter.unusedSimpArgs false
open Go.RowKit
/-- What the packs have behind so many inserts at the end. -/
def fillL : Nat → List Nat
  | 0 => []
  | k + 1 => insL (fillL k) k
end Go.Proofs.YtlecnlnpgghmbaaGreatDoor

/- law 8: the texts of alive. -/
namespace Go.Proofs.YtlecnlnpgghmbaaGreatDoor
set_option linter.unusedVariables false
set_option linter.unusedSimpArgs false
open Go.RowKit
def itoaB (n : Nat) : ByteArray := ⟨(Lib.itoa n).toArray⟩
def itoaT (k : Nat) : List ByteArray := (List.range k).map itoaB
theorem itoaT_succ (k : Nat) : itoaT (k + 1) = itoaT k ++ [itoaB k] := by unfold itoaT; rw [List.range_succ, List.map_append]; rfl
def dig1 (n : Nat) : ByteArray := if n < 10 then ⟨#[UInt8.ofNat (48 + n)]⟩ else ⟨#[UInt8.ofNat (48 + n / 10), UInt8.ofNat (48 + n % 10)]⟩
theorem itoaB_small (n : Nat) (h : n < 100) : itoaB n = dig1 n := by
  unfold itoaB dig1 Lib.itoa
  rw [if_neg (by omega), Int.toNat_natCast, Lib.decDigits]
  by_cases h1 : n < 10
  · rw [dif_pos h1, if_pos h1]
  · rw [dif_neg h1, if_neg h1, Lib.decDigits, dif_pos (by omega)]
    rfl
theorem itoaT_33 : itoaT 33 = (List.range 33).map dig1 := by
  unfold itoaT
  apply List.map_congr_left
  intro n hn
  exact itoaB_small n (by have := List.mem_range.1 hn; omega)
theorem fill_33 : fillL 33 = [16, 17] := by decide
theorem alive8_total : totalT (itoaT 33) ≤ 1048576 := by rw [itoaT_33]; decide
theorem alive8_fits : fitsT (itoaT 33) = true := by rw [itoaT_33]; decide
theorem alive8_len : (itoaT 33).length = 33 := by simp [itoaT]
theorem alive8_get : qgetV (itoaT 33) (-1) = .tuple #[.string ⟨#[51, 50]⟩, .bool true] := by rw [itoaT_33]; rfl
theorem alive8_range : rangeT (itoaT 33) (rfN 33 30) (rtN 33 99) = [⟨#[51, 48]⟩, ⟨#[51, 49]⟩, ⟨#[51, 50]⟩] := by rw [itoaT_33]; decide
theorem alive8_ins (s : ByteArray) : insQ (itoaT 33) 40 s = (1, itoaT 33) := by unfold insQ; rw [alive8_len, if_pos (by omega)]
theorem alive8_set (s : ByteArray) : setQ (itoaT 33) 40 s = (6, itoaT 33) := by unfold setQ; rw [alive8_len, if_pos (by decide)]
end Go.Proofs.YtlecnlnpgghmbaaGreatDoor

/- Opening slices that came in, at a row that bounds what it reads. -/
namespace Go.Proofs.YtlecnlnpgghmbaaGreatDoor
set_option linter.unusedVariables false
set_option linter.unusedSimpArgs false
open Go.RowKit Go.ChangeShapes Go.WideShapes Go.Deep
section
variable {H : Type} {enc : TypeId × Value → H} {w : World} {base : Nat} {spare : Nat → Bool} {held : Bool} {fuel : Nat}
theorem bulk_partT {d : DataW H} {l : List (DataW H)} (h : d ∈ l) : Rows.uptoBulk d ≤ Rows.uptoBulkAll l := by
  induction l with
  | nil => cases h
  | cons x r ih =>
    simp only [Rows.uptoBulkAll]
    rcases List.mem_cons.1 h with e | e
    · subst e; omega
    · have := ih e; omega
theorem bulk_texts (f : Nat → DataW H) (S : Nat → ByteArray) : ∀ (l : List Nat), (∀ i ∈ l, f i = .lit (.string (S i).data.toList)) → totalT (l.map S) ≤ Rows.uptoBulkAll (l.map f)
  | [], _ => by simp [totalT]
  | i :: l, h => by
    have h1 := bulk_texts f S l fun j hj => h j (by simp [hj])
    have h2 := h i (by simp)
    have e : (S i).data.toList.length = (S i).size := by rw [Array.length_toList]; rfl
    unfold totalT at *
    simp only [List.map_cons, Rows.uptoBulkAll, h2, Rows.uptoBulk, List.length_cons, List.sum_cons]
    omega
/-- A slice of texts. -/
theorem texts_arg {a : Option Addr} {len cap : Nat} {d : DataW H} {ps : List MemPlace} (h : DataW.Trod enc Tryz.prog w base spare held 22 (.slice a len cap) d ps) (hb : Rows.uptoBulk d ≤ 1048576) :
    ∃ zs : List ByteArray, (zs.length = len ∧ ArgRow w a len cap (fun i => .string (zs.getD i ByteArray.empty))) ∧ totalT zs ≤ 1048576 := by
  obtain ⟨fuel, hf⟩ := h
  rcases open_slice1 Tryz.underlying22 (by kernel_rfl) hf with ⟨hcs, _⟩ | ⟨x, l, c, m, n, V, D, Pl, hcs, hx, hl, hm, hmm, hd, hV⟩
  · simp [Value.cells] at hcs
    obtain ⟨rfl, rfl, rfl⟩ := hcs
    exact ⟨[], ⟨rfl, Nat.le_refl _, .inl rfl⟩, by decide⟩
  · simp [Value.cells] at hcs
    obtain ⟨rfl, rfl, rfl⟩ := hcs
    have hle : len ≤ m := by rw [hmm]; split <;> omega
    have each : ∀ i, i < m → ∃ s : ByteArray, V i = .string s ∧ D i = .lit (.string s.data.toList) := fun i hi => by
      obtain ⟨s, hs, hd, _⟩ := DataW.trod_string Tryz.underlying9 (hV i hi).2
      exact ⟨s, by simpa using hs, (Prod.mk.inj hd).1⟩
    obtain ⟨S, hS⟩ := choose_lt each
    have hd1 : d = .slice ((List.range len).map D) ((List.range (m - len)).map fun j => D (len + j)) := (Prod.mk.inj hd).1
    rw [hd1] at hb
    simp only [Rows.uptoBulk] at hb
    refine ⟨(List.range len).map S, ⟨by simp, argRow_of hl fun i hi => ?_⟩, ?_⟩
    · rw [(hV i (by omega)).1, (hS i (by omega)).1]
      simp [List.getD, hi]
    · have := bulk_texts D S (List.range len) fun i hi => (hS i (by have := List.mem_range.1 hi; omega)).2
      omega
end
end Go.Proofs.YtlecnlnpgghmbaaGreatDoor

/- opening a script of ops {a kind, two numbers, a text} that came in. -/
namespace Go.Proofs.YtlecnlnpgghmbaaGreatDoor
set_option linter.unusedVariables false
set_option linter.unusedSimpArgs false
open Go.RowKit Go.ChangeShapes Go.WideShapes Go.Deep
structure OpN where
  k : Int
  a : Int
  n : Int
  s : ByteArray
instance : Inhabited OpN := ⟨⟨0, 0, 0, ByteArray.empty⟩⟩
def OpN.ok (A : OpN) : Prop := (0 ≤ A.k ∧ A.k ≤ 255) ∧ (-9223372036854775808 ≤ A.a ∧ A.a ≤ 9223372036854775807) ∧ (-9223372036854775808 ≤ A.n ∧ A.n ≤ 9223372036854775807)
/-- The cells of a script. -/
def OpsRow (w : World) (a : Option Addr) (len cap : Nat) (Q : List OpN) : Prop :=
  Q.length = len ∧ len ≤ cap ∧ (len = 0 ∨ ∃ b o, a = some ⟨b, o, none⟩ ∧ ∀ i (hi : i < Q.length), w.cell? ⟨b, o + i * 4, none⟩ = some (.int .u8 Q[i].k) ∧ w.cell? ⟨b, o + i * 4 + 1, none⟩ = some (.int .i64 Q[i].a) ∧ w.cell? ⟨b, o + i * 4 + 2, none⟩ = some (.int .i64 Q[i].n) ∧ w.cell? ⟨b, o + i * 4 + 3, none⟩ = some (.string Q[i].s))
def totalQ (Q : List OpN) : Nat := (Q.map fun A => 1 + A.s.size).sum
section
variable {H : Type} {enc : TypeId × Value → H} {w : World} {base : Nat} {spare : Nat → Bool} {held : Bool} {fuel : Nat}
theorem len4q {α : Type} {l : List α} (h : l.length = 4) : ∃ a b c d, l = [a, b, c, d] := by
  match l, h with
  | [a, b, c, d], _ => exact ⟨a, b, c, d, rfl⟩
theorem bulk_ops (D : Nat → DataW H) (S : Nat → OpN) : ∀ (l : List Nat), (∀ i ∈ l, 1 + (S i).s.size ≤ Rows.uptoBulk (D i)) → totalQ (l.map S) ≤ Rows.uptoBulkAll (l.map D)
  | [], _ => by simp [totalQ]
  | i :: l, h => by
    have h1 := bulk_ops D S l fun j hj => h j (by simp [hj])
    have h2 := h i (by simp)
    unfold totalQ at *
    simp only [List.map_cons, Rows.uptoBulkAll, List.sum_cons]
    omega
end
end Go.Proofs.YtlecnlnpgghmbaaGreatDoor

/- law 8: a script that is beyond; what the packs have; all texts. -/
namespace Go.Proofs.YtlecnlnpgghmbaaGreatDoor
set_option linter.unusedVariables false
set_option linter.unusedSimpArgs false
open Go.RowKit
theorem OpsRow.below {w w' : World} {a : Option Addr} {len cap : Nat} {Q : List OpN} (h : OpsRow w a len cap Q) (hb : Below w.heap.size w w') : OpsRow w' a len cap Q := by
  refine ⟨h.1, h.2.1, h.2.2.imp id ?_⟩
  rintro ⟨b, o, e, hc⟩
  refine ⟨b, o, e, fun i hi => ?_⟩
  obtain ⟨h0, h1, h2, h3⟩ := hc i hi
  have k : ∀ {j : Nat} {v : Value}, w.cell? ⟨b, j, none⟩ = some v → w'.cell? ⟨b, j, none⟩ = some v := fun {j v} e => by rw [hb.cell (World.block_lt_of_cell? w _ e)]; exact e
  exact ⟨k h0, k h1, k h2, k h3⟩
theorem totalQ_succ {Q : List OpN} {k : Nat} (h : k < Q.length) : totalQ (Q.take (k + 1)) = totalQ (Q.take k) + 1 + Q[k].s.size := by
  unfold totalQ
  rw [List.take_succ_eq_append_getElem h, List.map_append, List.sum_append]
  simp; omega
theorem totalQ_take (Q : List OpN) (k : Nat) : totalQ (Q.take k) ≤ totalQ Q := by
  unfold totalQ
  conv => rhs; rw [← List.take_append_drop k Q]
  rw [List.map_append, List.sum_append]; omega
theorem totalQ_mem : ∀ {Q : List OpN} {A : OpN}, A ∈ Q → A.s.size ≤ totalQ Q
  | [], _, h => by simp at h
  | B :: Q, A, h => by
    unfold totalQ
    simp only [List.map_cons, List.sum_cons]
    rcases List.mem_cons.1 h with rfl | h
    · omega
    · have := totalQ_mem h
      unfold totalQ at this
      omega
section
variable {w : World} {q : Nat} {F : Nat → Prop} {L : List ByteArray} {ls : List Nat}
theorem QuickL.each (h : QuickL w q F L ls) : ∀ x ∈ ls, 1 ≤ x ∧ x ≤ 32 := by
  obtain ⟨Ns, h1, h2, h3, rfl, h4⟩ := h
  intro x hx
  obtain ⟨u, hu, rfl⟩ := List.mem_map.1 hx
  exact ⟨List.length_pos_iff.2 (h2 u hu).1, (h2 u hu).2⟩
theorem QuickL.sum (h : QuickL w q F L ls) : ls.sum = L.length := by
  obtain ⟨Ns, h1, h2, rfl, rfl, h4⟩ := h
  exact lens_flat Ns
theorem QuickL.many (h : QuickL w q F L ls) : ls.length ≤ L.length := by
  rw [← h.sum]
  have he := h.each
  clear h
  induction ls with
  | nil => simp
  | cons x l ih =>
    have := ih fun y hy => he y (by simp [hy])
    have := (he x (by simp)).1
    simp only [List.length_cons, List.sum_cons]; omega
theorem QuickL.lt (h : QuickL w q F L ls) {k : Nat} (hk : F k) : k < w.heap.size := h.toF.lt hk
end
theorem range_all (L : List ByteArray) : rangeT L (rfN L.length 0) (rtN L.length (-1)) = L := by
  unfold rangeT rfN rtN
  rw [if_neg (by omega), if_pos (by omega)]
  rw [List.take_of_length_le (by omega)]
  rfl
theorem qget_at {L : List ByteArray} {k : Nat} (h : k < L.length) : qgetV L (k : Int) = .tuple #[.string (L.getD k ByteArray.empty), .bool true] := by
  have hp : qplN L.length k = k := by unfold qplN; rw [if_neg (by omega)]
  have hb : qplB L.length k = true := by unfold qplB; rw [hp]; simp; omega
  unfold qgetV
  rw [hb, hp]; simp
theorem qget_back {L : List ByteArray} {k : Nat} (h : k < L.length) : qgetV L ((k : Int) - (L.length : Int)) = .tuple #[.string (L.getD k ByteArray.empty), .bool true] := by
  have hp : qplN L.length ((k : Int) - (L.length : Int)) = k := by unfold qplN; rw [if_pos (by omega)]; omega
  have hb : qplB L.length ((k : Int) - (L.length : Int)) = true := by unfold qplB; rw [hp]; simp; omega
  unfold qgetV
  rw [hb, hp]; simp
end Go.Proofs.YtlecnlnpgghmbaaGreatDoor

/- list: all the texts of a row, small or great. -/
namespace Go.Proofs.YtlecnlnpgghmbaaGreatDoor
set_option linter.unusedVariables false
set_option linter.unusedSimpArgs false
open Go.RowKit Go.Shelf
attribute [local go_sem] Oper.semAt_some
/-- Between two rounds of small.all. -/
structure AllI (w : World) (T : List ByteArray) (pre : List { x // x ∈ toldP T }) (W : World) : Prop where
  below : Below w.heap.size w W
  size : w.heap.size + 3 ≤ W.heap.size
  got : ∃ v, W.heap[w.heap.size + 1]? = some (.cells #[v] 22 (0, 0)) ∧ SliceIs W w.heap.size 9 v pre.length ((pre.map (·.1.2)).map strV)
theorem AllI.own {w : World} {T : List ByteArray} {B : Nat} (hB : w.heap.size ≤ B) : OwnFrom B (AllI w T) := by
  rintro pre W W' row h hg hr
  have hr2 := fun r e => (hr r e).2
  obtain ⟨v, g1, g2⟩ := h.got
  exact ⟨grown_belowP h.below hg (fun r e => (hr r e).1) hB (by have := h.size; omega), Nat.le_trans h.size hg.size, v, grown_keepP hg hr2 g1, g2.ownQ hg hr2⟩
set_option maxHeartbeats 6400000 in
set_option maxRecDepth 100000 in
theorem smallAll {w : World} (hl : Laid w) {p : Nat} {F : Nat → Prop} {T : List ByteArray} (hp : PackF w p F T) :
    Calls Tryz.prog 167 #[.agg #[pv p]] w fun e w' => (∃ v, e = .returned v ∧ SliceIs w' w.heap.size 9 v T.length (T.map strV)) ∧ Below w.heap.size w w' := by
  have HA := Lib.hid (fun w => packAll w p)
  obtain ⟨w4, hw4⟩ : ∃ w4, w4 = (w.alloc (.cells #[pv p] 82)).alloc (.cells #[.slice none 0 0] 22) := ⟨_, rfl⟩
  have hs4 : w4.heap.size = w.heap.size + 2 := by rw [hw4]; simp
  have hb4 : Below w.heap.size w w4 := by rw [hw4]; exact ((Below.refl w.heap.size w).alloc (Nat.le_refl _) _).alloc (by simp) _
  obtain ⟨w5, hw5⟩ : ∃ w5, w5 = w4.alloc (.cells #[.pointer (some ⟨p, 0, none⟩)] 79) := ⟨_, rfl⟩
  have hs5 : w5.heap.size = w.heap.size + 3 := by rw [hw5]; simp [hs4]
  have hb5 : Below w.heap.size w w5 := by rw [hw5]; exact hb4.alloc (by omega) _
  have hbp : w5.cell? ⟨w4.heap.size, 0, none⟩ = some (.pointer (some ⟨p, 0, none⟩)) := by rw [hw5]; exact cell_in (heap_new _ _) rfl
  have e1 := heap_new w (Obj.cells #[pv p] 82)
  have e2 := heap_new (w.alloc (Obj.cells #[pv p] 82)) (Obj.cells #[Value.slice none 0 0] 22)
  simp only [World.size_alloc] at e2
  have x0 : w4.cell? ⟨w.heap.size, 0, none⟩ = some (pv p) := by rw [hw4]; exact cell_in (heap_old e1 _) rfl
  have hI0 : AllI w T [] w5 := ⟨hb5, by omega, .slice none 0 0, by rw [hw5, hw4]; exact heap_old e2 _, SliceIs.nil _ _ _⟩
  have hmany := hp.ok.many
  have h15 := hp.below hb5
  obtain ⟨g, cap, cur, hrw, hF1⟩ := h15
  have HSeq := Lib.hid (packStopsM hl rfl hb5 (by omega) hrw hbp 2)
  have HI0 := Lib.hid hI0
  have HW4 := Lib.hid hw4
  have HW5 := Lib.hid (And.intro hw5 hs5)
  clear hw4 hw5 hs4 hb4 hs5 hb5 hbp hI0 hrw hl hp hF1 e1 e2
  obtain ⟨tm, htm⟩ : ∃ tm : Array Value, tm = #[.agg #[pv p], .pointer (some ⟨w.heap.size, 0, none⟩), .pointer (some ⟨w.heap.size + 1, 0, none⟩), undef, undef, .pointer (some ⟨w.heap.size, 0, none⟩), pv p, .func (.func 110) #[] #[.pointer (some ⟨w4.heap.size, 0, none⟩)], undef, undef, undef, undef, undef, undef, undef] := ⟨_, rfl⟩
  have HTm := Lib.hid htm
  clear htm
  refine callsIn_wide.1 (callsIn_of_wp_marks (n := 3) Tryz.func167 rfl trivial ?_ rfl)
  refine wpIn_wide.2 ?_
  simp only [Tryz.ntmps167, List.size_toArray, List.length_cons, List.length_nil, Nat.reduceAdd, Nat.reduceSub, Array.replicate_succ, Array.replicate_zero, List.push_toArray, List.append_toArray, List.nil_append, List.cons_append]
  go_wp2_with fail
  rw [← HW4.out]
  refine (HA.out w4).mono ?_
  rintro en w' ⟨rfl, hw'⟩
  obtain rfl : w' = w5 := hw'.trans HW5.out.1.symm
  clear hw'
  go_wp2_with fail
  refine (wpIn_wide (n := 3)).1 ?_
  refine wpIn_rangeFunc_ownH (F := Fence.wide) rfl (by omega) (gf := 110) (lb := #[.pointer (some ⟨w4.heap.size, 0, none⟩)]) rfl trivial (fun args w => rfl) HSeq.out KeepP.trans (fun W l o o' hle hl ho _ => KeepP.putObj W l o o' (by have := HW5.out.2; omega) hl ho) (Below.refl _ _) (fun _ => rfl)
    (AllI w T) (fun _ _ _ => False) (AllI.own (by have := HW5.out.2; omega)) (fun c => fun _ _ _ _ h _ _ => h) HI0.out (fun x a' _ => a' = { tmps := ((tm.setIfInBounds 8 (.int .i64 x.1.1)).setIfInBounds 9 (.string x.1.2)).setIfInBounds 4 (.string x.1.2), defers := [] }) (fun x a' => fun _ _ _ _ h _ _ => h) ?assign ?body ?done ?stop
  case assign =>
    intro l pre x W K hI hK
    have HI := Lib.hid hI
    clear hI
    unfold encP
    gi_wp2
    refine hK _ _ (KeepsFrom.refl _ _) (KeepP.of_below (Below.refl _ _) (by have := HI.out.size; omega)) HI.out ?_
    rw [HTm.out]; rfl
  case body =>
    rintro l pre ⟨⟨xi, xs⟩, hx⟩ a' W _ _ hI rfl hlen
    have HI := Lib.hid hI
    obtain ⟨v1, g1, g2⟩ := hI.got
    obtain ⟨av, cv, rfl, _⟩ := g2.arg
    have hpl : pre.length < T.length := by simpa using hlen
    have x3 := cell_in g1 (i := 0) rfl
    have f3 := frozen_in g1 0
    have hWs : w.heap.size ≤ W.heap.size := by have := hI.size; omega
    rw [HTm.out]
    simp only [List.setIfInBounds_toArray, List.set_cons_succ, List.set_cons_zero]
    obtain ⟨i0, k1, k2, k3, k4⟩ := info_parts info_str
    obtain ⟨a', c', W2, W3, hr, hW3, q2, q3, s3, c3, _⟩ := app_cell (P := Tryz.prog) (t := 22) (ty := 22) Tryz.underlying22 k1 k2 k3 k4 rfl (ts := 22) (by decide) g1 g2 hWs (.string xs) rfl (by unfold maxLen; omega) (by omega)
    have z0 := cell_in q2 (i := 0) rfl
    have zf := frozen_in q2 0
    have HFin := Lib.hid (show ownPostG w'.heap.size (KeepP w.heap.size w'.heap.size g) (AllI w T) (fun _ _ _ => False) (pre ++ [⟨(xi, xs), hx⟩]) W .normal { tmps := #[], defers := [] } W3 from by
      refine ⟨keepsFrom_ofP _ c3 fun k hk o ho => ?_, KeepP.chgT c3 (fun k hk => ?_) hWs fun k hk cs E fz e => ?_, belowChg hI.below c3 hWs fun k hk _ => ?_, Nat.le_trans hI.size c3.size, _, q3, ?_⟩
      · rcases hk with hk | rfl
        · obtain ⟨_, _, cur, fz, hh⟩ := g2.vb hk
          rw [hh] at ho; cases ho; rfl
        · rw [g1] at ho; cases ho; rfl
      · rcases hk with hk | rfl
        · exact (g2.vb hk).1
        · omega
      · rcases hk with hk | rfl
        · obtain ⟨_, _, cur, fz', hh⟩ := g2.vb hk
          rw [hh] at e; cases e; exact ⟨by decide, by decide⟩
        · rw [g1] at e; cases e; exact ⟨by decide, by decide⟩
      · rcases hk with hk | rfl
        · exact (g2.vb hk).1
        · omega
      · rw [List.length_append, List.length_singleton, List.map_append, List.map_append]
        exact s3)
    have HR := Lib.hid hr
    have HW3 := Lib.hid hW3
    clear hI g1 g2 hr hW3 q2 q3 s3 c3 k1 k2 k3 k4
    gi_wp2_with (gi_at_builtin; refine wpListIn_append_runQ rfl rfl HR.out ?_)
    rw [← HW3.out]
    exact HFin.out
  case done =>
    rintro D xs W hD hxs hI hK
    obtain ⟨v1, g1, g2⟩ := hI.got
    obtain ⟨av, cv, rfl, _⟩ := g2.arg
    have hmap : xs.map (fun x => x.1.2) = T := by
      have e := congrArg (List.map Prod.snd) hxs
      rw [List.map_map] at e
      have h2 : (toldP T).map Prod.snd = T := by
        apply List.ext_getElem
        · simp
        · intro i h3 h4
          simp only [List.length_map, toldP_length] at h3
          simp [toldP, List.getD, h3]
      rw [h2] at e
      exact e
    have hlen : xs.length = T.length := by have := congrArg List.length hmap; simpa using this
    rw [hmap] at g2
    rw [hlen] at g1 g2
    obtain ⟨W2, hW2⟩ : ∃ W2, W2 = W.setCell ⟨w.heap.size + 1, 0, none⟩ (.slice av T.length cv) := ⟨_, rfl⟩
    have hc2 : Chg (fun k => k = w.heap.size + 1) W W2 := by rw [hW2]; exact Chg.setCell _ _ _ _ rfl
    have hne : D ≠ w.heap.size + 1 := fun e => by subst e; rw [g1] at hK; cases hK
    have hK2 : W2.heap[D]? = some (.deferred (some [])) := hc2.keep hK hne
    have hg := grownBy_putObj' W2 D (.deferred none)
    have hr : ∀ r, some D = some r → ∃ o : Obj, W2.heap[r]? = some o ∧ o.isCells = false := fun r e => by cases e; exact ⟨_, hK2, rfl⟩
    have g12 : W2.heap[w.heap.size + 1]? = some (.cells #[.slice av T.length cv] 22 (0, 0)) := by rw [hW2]; exact setCell_head g1 0 _
    have s2 : SliceIs W2 w.heap.size 9 (.slice av T.length cv) T.length (T.map strV) := g2.chg hc2 fun k hk e => by
      subst e
      obtain ⟨_, _, cur, fz, hh⟩ := g2.vb hk
      rw [g1] at hh; cases hh
    have HFin := Lib.hid (show (SliceIs (W2.putObj D (.deferred none)) w.heap.size 9 (.slice av T.length cv) T.length (T.map strV) ∧ Below w.heap.size w (W2.putObj D (.deferred none))) ∧ (W2.putObj D (.deferred none)).cell? ⟨w.heap.size + 1, 0, none⟩ = some (.slice av T.length cv) ∧ W2.heap[D]? = some (.deferred (some [])) from
      ⟨⟨s2.ownQ hg hr, grown_belowP (belowChg hI.below hc2 (by have := hI.size; omega) fun k hk _ => by omega) hg (fun r e => by cases e; exact hD) (by have := HW5.out.2; omega) (by have := hI.size; have := hc2.size; omega)⟩, cell_in (grown_keepP hg hr g12) rfl, hK2⟩)
    have y0 := cell_in g1 (i := 0) rfl
    have yf := frozen_in g1 0
    have HW2 := Lib.hid hW2
    clear hI g1 g2 hmap hlen hg hr hK hxs hW2 hc2 hne hK2 g12 s2
    go_wp2_with fail
    rw [← HW2.out]
    refine ⟨by simp, .inl ⟨_, _, rfl, run_takeDeferred HFin.out.2.2, ?_⟩⟩
    refine ⟨.slice av T.length cv, ?_, ⟨_, rfl, HFin.out.1.1⟩, HFin.out.1.2⟩
    have h := HFin.out.2.1
    simp [results, Tryz.results167, go_sem, h]
  case stop =>
    rintro D c pre W hD hpre hX hK
    exact hX.elim
set_option maxHeartbeats 800000 in
set_option maxRecDepth 100000 in
theorem greatAll {w : World} (hl : Laid w) {q : Nat} {F : Nat → Prop} {L : List ByteArray} (hq : QuickF w q F L) (hn : L.length ≤ 1000000000) :
    Calls Tryz.prog 175 #[.agg #[pv q]] w fun e w' => (∃ v, e = .returned v ∧ SliceIs w' w.heap.size 9 v L.length (L.map strV)) ∧ Below w.heap.size w w' := by
  obtain ⟨w1, hw1⟩ : ∃ w1, w1 = w.alloc (.cells #[pv q] 155) := ⟨_, rfl⟩
  have hb1 : Below w.heap.size w w1 := by rw [hw1]; exact (Below.refl w.heap.size w).alloc (Nat.le_refl _) _
  have x0 : w1.cell? ⟨w.heap.size, 0, none⟩ = some (pv q) := by rw [hw1]; exact cell_in (heap_new w _) rfl
  have HR := Lib.hid (quickRange (hl.below hb1) (hq.below hb1) hn 0 (-1) (by omega) (by omega))
  rw [range_all] at HR
  have HB := Lib.hid hb1
  have HW := Lib.hid hw1
  clear hw1 hb1 hq hl
  go_enter Tryz.func175, Tryz.ntmps175
  go_upto_region 1 with (fail)
  rw [← HW.out]
  go_wp2_with fail
  refine HR.out.mono ?_
  rintro e w2 ⟨⟨v, rfl, s2⟩, b2⟩
  have HE := Lib.hid (And.intro (s2.mono HB.out.size) (HB.out.trans (b2.mono HB.out.size)))
  clear s2 b2
  go_wp2_with fail
  go_ret
  exact ⟨⟨_, rfl, HE.out.1⟩, HE.out.2⟩
end Go.Proofs.YtlecnlnpgghmbaaGreatDoor

/- list: a list as an object; gone, Len, Get, New, Small. -/
namespace Go.Proofs.YtlecnlnpgghmbaaGreatDoor
set_option linter.unusedVariables false
set_option linter.unusedSimpArgs false
open Go.RowKit
/-- The row of a list: small (one pack) or great (a long row). -/
def RowV (w : World) (v : Value) (F : Nat → Prop) (L : List ByteArray) (sm : Bool) : Prop :=
  (sm = true ∧ ∃ p, v = smallV p ∧ PackF w p F L ∧ L.length ≤ 32 ∧ ∀ s ∈ L, s.size ≤ 64) ∨ (sm = false ∧ ∃ q, v = greatV q ∧ QuickF w q F L)
/-- A list: its block, its row. -/
structure ListR (w : World) (l : Nat) (F : Nat → Prop) (L : List ByteArray) (sm : Bool) (v : Value) (Fr : Nat → Prop) : Prop where
  head : w.heap[l]? = some (.cells #[v] 39 (0, 0))
  row : RowV w v Fr L sm
  off : ¬ Fr l
  all : ∀ k, F k ↔ k = l ∨ Fr k
  few : L.length ≤ 1048576
def ListF (w : World) (l : Nat) (F : Nat → Prop) (L : List ByteArray) (sm : Bool) : Prop := ∃ v Fr, ListR w l F L sm v Fr
section
variable {w w' : World} {l : Nat} {v : Value} {F Fr : Nat → Prop} {L : List ByteArray} {sm : Bool}
theorem RowV.lt (h : RowV w v F L sm) {k : Nat} (hk : F k) : k < w.heap.size := by
  rcases h with ⟨_, p, _, h, _⟩ | ⟨_, q, _, h⟩
  · exact h.lt hk
  · exact h.lt hk
theorem RowV.chg (h : RowV w v F L sm) {S : Nat → Prop} (hc : Chg S w w') (hn : ∀ k, F k → ¬ S k) : RowV w' v F L sm := by
  rcases h with ⟨h0, p, h1, h, h2⟩ | ⟨h0, q, h1, h⟩
  · exact .inl ⟨h0, p, h1, h.chg hc hn, h2⟩
  · exact .inr ⟨h0, q, h1, h.chg hc hn⟩
theorem RowV.below (h : RowV w v F L sm) (hb : Below w.heap.size w w') : RowV w' v F L sm := h.chg (Chg.of_below (fun _ => False) hb) fun _ _ => id
theorem RowV.small (h : RowV w v F L sm) {s : ByteArray} (hs : s ∈ L) : s.size ≤ 65536 := by
  rcases h with ⟨_, p, _, h, _⟩ | ⟨_, q, _, h⟩
  · exact h.ok.each s hs
  · exact h.small hs
theorem ListR.chg (h : ListR w l F L sm v Fr) {S : Nat → Prop} (hc : Chg S w w') (hn : ∀ k, F k → ¬ S k) : ListR w' l F L sm v Fr :=
  { h with head := hc.keep h.head (hn l ((h.all l).2 (.inl rfl))), row := h.row.chg hc fun k hk => hn k ((h.all k).2 (.inr hk)) }
theorem ListR.lt (h : ListR w l F L sm v Fr) {k : Nat} (hk : F k) : k < w.heap.size := by
  rcases (h.all k).1 hk with rfl | hk
  · exact heap_lt h.head
  · exact h.row.lt hk
theorem ListF.chg (h : ListF w l F L sm) {S : Nat → Prop} (hc : Chg S w w') (hn : ∀ k, F k → ¬ S k) : ListF w' l F L sm := by obtain ⟨v, Fr, h⟩ := h; exact ⟨v, Fr, h.chg hc hn⟩
theorem ListF.below (h : ListF w l F L sm) (hb : Below w.heap.size w w') : ListF w' l F L sm := h.chg (Chg.of_below (fun _ => False) hb) fun _ _ => id
theorem ListF.lt (h : ListF w l F L sm) {k : Nat} (hk : F k) : k < w.heap.size := by obtain ⟨v, Fr, h⟩ := h; exact h.lt hk
theorem ListF.size (h : ListF w l F L sm) {s : ByteArray} (hs : s ∈ L) : s.size ≤ 65536 := by obtain ⟨v, Fr, h⟩ := h; exact h.row.small hs
theorem ListF.few (h : ListF w l F L sm) : L.length ≤ 1048576 := by obtain ⟨v, Fr, h⟩ := h; exact h.few
/-- The row has changed, its value has not. -/
theorem ListR.step (h : ListR w l F L sm v Fr) {Fr' : Nat → Prop} {L' : List ByteArray} (hc : Chg Fr w w') (hr : RowV w' v Fr' L' sm) (hf : Fresh w Fr Fr') (hn : L'.length ≤ 1048576) :
    ListR w' l (fun k => k = l ∨ Fr' k) L' sm v Fr' ∧ Fresh w F (fun k => k = l ∨ Fr' k) ∧ Chg F w w' := by
  refine ⟨⟨hc.keep h.head h.off, hr, fun hF => ?_, fun k => Iff.rfl, hn⟩, fun k hk => ?_, hc.mono fun k hk _ => (h.all k).2 (.inr hk)⟩
  · rcases hf l hF with h1 | h1
    · exact h.off h1
    · have := heap_lt h.head; omega
  · rcases hk with rfl | hk
    · exact .inl ((h.all _).2 (.inl rfl))
    · exact (hf k hk).imp (fun h1 => (h.all k).2 (.inr h1)) id
end
theorem getV_q (L : List ByteArray) (a : Int) : getV L a = qgetV L a := rfl
set_option maxHeartbeats 800000 in
set_option maxRecDepth 100000 in
theorem goneL {w : World} {l : Nat} {F Fr : Nat → Prop} {L : List ByteArray} {sm : Bool} {v : Value} (h : ListR w l F L sm v Fr) : Calls Tryz.prog 70 #[pv l] w fun e w' => e = .returned (.bool false) ∧ w = w' := by
  have c0 : w.cell? ⟨l, 0, none⟩ = some v := cell_in h.head (i := 0) rfl
  rcases h.row with ⟨_, p, rfl, _⟩ | ⟨_, p, rfl, _⟩
  case' inl => unfold smallV at c0
  case' inr => unfold greatV at c0
  all_goals
    clear h
    go_enter Tryz.func70, Tryz.ntmps70
    go_wp2_with fail
    go_ret
    exact ⟨rfl, rfl⟩
set_option maxHeartbeats 800000 in
set_option maxRecDepth 100000 in
theorem lenL {w : World} {l : Nat} {F Fr : Nat → Prop} {L : List ByteArray} {sm : Bool} {v : Value} (h : ListR w l F L sm v Fr) : Calls Tryz.prog 34 #[pv l] w fun e w' => e = .returned (.int .i64 L.length) ∧ w = w' := by
  have c0 : w.cell? ⟨l, 0, none⟩ = some v := cell_in h.head (i := 0) rfl
  have HG := Lib.hid (goneL h)
  rcases h.row with ⟨_, p, rfl, hp, _⟩ | ⟨_, p, rfl, hp⟩
  case' inl =>
    have HL := Lib.hid (packLen hp)
    unfold smallV at c0
  case' inr =>
    have HL := Lib.hid (quickLen hp)
    unfold greatV at c0
  all_goals
    clear h hp
    go_enter Tryz.func34, Tryz.ntmps34
    go_wp2_with fail
    refine HG.out.mono ?_
    rintro e w' ⟨rfl, rfl⟩
    go_wp2_with fail
    refine HL.out.mono ?_
    rintro e w' ⟨rfl, rfl⟩
    go_wp2_with fail
    go_ret
    exact ⟨rfl, rfl⟩
set_option maxHeartbeats 800000 in
set_option maxRecDepth 100000 in
theorem getL {w : World} {l : Nat} {F Fr : Nat → Prop} {L : List ByteArray} {sm : Bool} {v : Value} (h : ListR w l F L sm v Fr) (hl : Laid w) (a : Int) (ha : -9223372036854775808 ≤ a ∧ a ≤ 9223372036854775807) :
    Calls Tryz.prog 32 #[pv l, .int .i64 a] w fun e w' => e = .returned (qgetV L a) ∧ Below w.heap.size w w' := by
  have c0 : w.cell? ⟨l, 0, none⟩ = some v := cell_in h.head (i := 0) rfl
  have HG := Lib.hid (goneL h)
  have hn := h.few
  rcases h.row with ⟨_, p, rfl, hp, _⟩ | ⟨_, p, rfl, hp⟩
  case' inl =>
    have HL := Lib.hid (packGet hp hl a ha)
    rw [getV_q] at HL
    unfold smallV at c0
  case' inr =>
    have HL := Lib.hid (quickGet hp hl (by omega) a ha)
    unfold greatV at c0
  all_goals
    clear h hp hn
    unfold qgetV at HL ⊢
    generalize (if qplB L.length a then L.getD (qplN L.length a).toNat ByteArray.empty else ByteArray.empty) = y at *
    generalize qplB L.length a = z at *
    go_enter Tryz.func32, Tryz.ntmps32
    go_wp2_with fail
    refine HG.out.mono ?_
    rintro e w' ⟨rfl, rfl⟩
    go_wp2_with fail
    refine HL.out.mono ?_
    rintro e w2 ⟨rfl, b2⟩
    have HB := Lib.hid b2
    clear b2
    go_wp2_with fail
    go_ret2
    exact ⟨rfl, HB.out⟩
set_option maxHeartbeats 800000 in
set_option maxRecDepth 100000 in
theorem newL (w : World) : Calls Tryz.prog 18 #[] w fun e w' => (∃ l F, e = .returned (pv l) ∧ ListF w' l F [] true ∧ ∀ k, F k → w.heap.size ≤ k) ∧ Below w.heap.size w w' := by
  have HN := Lib.hid (packNew w)
  go_enter Tryz.func18, Tryz.ntmps18
  go_wp2_with fail
  refine HN.out.mono ?_
  rintro e w1 ⟨p, rfl, ⟨F1, p1, k1⟩, hp, c1⟩
  obtain ⟨w2, hw2⟩ : ∃ w2, w2 = w1.alloc (.cells #[.iface 82 (.agg #[pv p])] 39) := ⟨_, rfl⟩
  have hb1 : Below w.heap.size w w1 := belowChg (Below.refl _ _) c1 (Nat.le_refl _) fun k hk => hk.elim
  have hb2 : Below w1.heap.size w1 w2 := by rw [hw2]; exact (Below.refl _ _).alloc (Nat.le_refl _) _
  have HE := Lib.hid (show ListF w2 w1.heap.size (fun k => k = w1.heap.size ∨ F1 k) [] true ∧ (∀ k, (k = w1.heap.size ∨ F1 k) → w.heap.size ≤ k) ∧ Below w.heap.size w w2 from
    ⟨⟨smallV p, F1, by rw [hw2]; exact heap_new _ _, .inl ⟨rfl, p, rfl, p1.below hb2, by simp, by simp⟩, fun hF => by have := p1.lt hF; omega, fun k => Iff.rfl, by simp⟩, fun k hk => hk.elim (fun e => by rw [e]; exact hb1.size) (k1 k), hb1.trans (hb2.mono hb1.size)⟩)
  have HW := Lib.hid hw2
  clear p1 k1 c1 hp hw2 hb1 hb2 HN
  go_wp2_with fail
  rw [← HW.out]
  go_ret
  exact ⟨⟨_, _, rfl, HE.out.1, HE.out.2.1⟩, HE.out.2.2⟩
set_option maxHeartbeats 800000 in
set_option maxRecDepth 100000 in
theorem smallL {w : World} {l : Nat} {F Fr : Nat → Prop} {L : List ByteArray} {sm : Bool} {v : Value} (h : ListR w l F L sm v Fr) : Calls Tryz.prog 36 #[pv l] w fun e w' => e = .returned (.bool sm) ∧ Below w.heap.size w w' := by
  have c0 : w.cell? ⟨l, 0, none⟩ = some v := cell_in h.head (i := 0) rfl
  have HG := Lib.hid (goneL h)
  rcases h.row with ⟨rfl, p, rfl, hp, _⟩ | ⟨rfl, p, rfl, hp⟩
  case' inl =>
    unfold smallV at c0
    have HT : ∀ w, (Instr.typeAssert (.iface 82 (.agg #[pv p])) 37 82 true).run Tryz.prog w = .ok (.tuple #[.agg #[pv p], .bool true]) w := fun _ => rfl
  case' inr =>
    unfold greatV at c0
    have HT : ∀ w, (Instr.typeAssert (.iface 155 (.agg #[pv p])) 37 82 true).run Tryz.prog w = .ok (.tuple #[.agg #[.pointer none], .bool false]) w := fun _ => rfl
  all_goals
    clear h hp
    go_enter Tryz.func36, Tryz.ntmps36
    go_wp2_with fail
    refine HG.out.mono ?_
    rintro e w' ⟨rfl, rfl⟩
    go_wp2_with fail
    go_ret
    exact ⟨rfl, (Below.refl w.heap.size w).alloc (Nat.le_refl _) _⟩
end Go.Proofs.YtlecnlnpgghmbaaGreatDoor

/- list: grow. -/
namespace Go.Proofs.YtlecnlnpgghmbaaGreatDoor
set_option linter.unusedVariables false
set_option linter.unusedSimpArgs false
open Go.RowKit
/-- Does it stay small? -/
def keeps (n : Int) (s : ByteArray) : Bool := decide (n ≤ 32) && decide (s.size ≤ 64)
/-- The row's value has changed too. -/
theorem ListR.turn {w w1 w2 : World} {l q : Nat} {v : Value} {F Fr G : Nat → Prop} {L : List ByteArray} {sm : Bool} (h : ListR w l F L sm v Fr) (hb : Below w.heap.size w w1) (hq : QuickF w1 q G L) (hG : ∀ k, G k → w.heap.size ≤ k)
    (hw : w2 = w1.setCell ⟨l, 0, none⟩ (greatV q)) : (∃ F', ListF w2 l F' L false ∧ Fresh w F F') ∧ Chg F w w2 := by
  have hh : w1.heap[l]? = some (.cells #[v] 39 (0, 0)) := (Chg.of_below (fun _ => False) hb).keep h.head id
  have hlt := heap_lt h.head
  have hc : Chg (fun k => k = l) w1 w2 := by rw [hw]; exact Chg.setCell _ _ _ _ rfl
  have hd : ∀ k, G k → k ≠ l := fun k hk e => by have := hG k hk; omega
  refine ⟨⟨fun k => k = l ∨ G k, ⟨greatV q, G, by rw [hw]; exact setCell_head hh 0 _, .inr ⟨rfl, q, rfl, hq.chg hc hd⟩, fun hl => hd l hl rfl, fun k => Iff.rfl, h.few⟩, fun k hk => ?_⟩, (Chg.of_below F hb).trans hc fun k hk _ => (h.all k).2 (.inl hk)⟩
  rcases hk with rfl | hk
  · exact .inl ((h.all _).2 (.inl rfl))
  · exact .inr (hG k hk)
set_option maxHeartbeats 3200000 in
set_option maxRecDepth 100000 in
theorem growL {w0 w : World} (hl : Laid w0) (hb0 : Below w0.heap.size w0 w) (hN : w0.heap.size ≤ w.heap.size) {l : Nat} {F Fr : Nat → Prop} {L : List ByteArray} {sm : Bool} {v : Value} (h : ListR w l F L sm v Fr) (n : Int) (hn : -9223372036854775808 ≤ n ∧ n ≤ 9223372036854775807) (s : ByteArray) (hs : s.size ≤ 9000000000000000000) :
    Calls Tryz.prog 71 #[pv l, .int .i64 n, .string s] w fun e w' => (∃ v, e = .returned v) ∧ (∃ F', ListF w' l F' L (sm && keeps n s) ∧ Fresh w F F') ∧ Chg F w w' := by
  have HS := Lib.hid (smallL h)
  have c0 : w.cell? ⟨l, 0, none⟩ = some v := cell_in h.head (i := 0) rfl
  have HSame := Lib.hid (show ∀ w', Below w.heap.size w w' → (∃ F', ListF w' l F' L sm ∧ Fresh w F F') ∧ Chg F w w' from fun w' hb => ⟨⟨F, ListF.below ⟨v, Fr, h⟩ hb, fun k hk => .inl hk⟩, Chg.of_below F hb⟩)
  cases hsm : sm with
  | false =>
    rw [hsm] at HS HSame
    rw [Bool.false_and]
    clear h c0 hl hb0 hsm
    go_enter Tryz.func71, Tryz.ntmps71
    go_wp2_with fail
    refine HS.out.mono ?_
    rintro e w1 ⟨rfl, b1⟩
    have HE := Lib.hid (HSame.out w1 b1)
    clear b1
    go_wp2_with fail
    refine bodyPost_ret (results_none rfl _ _ _) rfl ?_
    exact ⟨⟨_, rfl⟩, HE.out⟩
  | true =>
    rw [hsm] at HS HSame h
    rw [Bool.true_and]
    cases hk : keeps n s with
    | true =>
      have hk1 : decide (n ≤ 32) = true ∧ decide (s.size ≤ 64) = true := by unfold keeps at hk; simpa using hk
      obtain ⟨k1, k2⟩ := hk1
      have k3 : decide ((s.size : Int) ≤ 64) = true := by have := of_decide_eq_true k2; exact decide_eq_true (by omega)
      clear h c0 hl hb0 hsm hk
      go_enter Tryz.func71, Tryz.ntmps71
      go_wp2_with fail
      refine HS.out.mono ?_
      rintro e w1 ⟨rfl, b1⟩
      have HE := Lib.hid (HSame.out w1 b1)
      clear b1
      go_wp2_with fail
      refine bodyPost_ret (results_none rfl _ _ _) rfl ?_
      exact ⟨⟨_, rfl⟩, HE.out⟩
    | false =>
      have hk1 : decide (n ≤ 32) = false ∨ decide (n ≤ 32) = true ∧ decide (s.size ≤ 64) = false ∧ decide ((s.size : Int) ≤ 64) = false := by
        unfold keeps at hk
        cases h1 : decide (n ≤ 32) with
        | false => exact .inl rfl
        | true =>
          rw [h1, Bool.true_and] at hk
          have := of_decide_eq_false hk
          exact .inr ⟨rfl, hk, decide_eq_false (by omega)⟩
      obtain ⟨p, rfl, hp, h32⟩ : ∃ p, v = smallV p ∧ PackF w p Fr L ∧ L.length ≤ 32 := by
        rcases h.row with ⟨_, p, h1, hp, h32, _⟩ | ⟨h1, _⟩
        · exact ⟨p, h1, hp, h32⟩
        · cases h1
      have HT := Lib.hid (fun w' (hb : Below w.heap.size w w') => quickNew w')
      have HH := Lib.hid (And.intro h (And.intro hp (And.intro hl hb0)))
      have hm : ∀ s ∈ L, s.size ≤ 65536 := fun s hs => hp.ok.each s hs
      have HM := Lib.hid hm
      have hlt := heap_lt h.head
      unfold smallV at c0
      clear h hp hl hb0 hsm hk hm
      rcases hk1 with k1 | ⟨k1, k2, k3⟩
      all_goals
        go_enter Tryz.func71, Tryz.ntmps71
        go_wp2_with fail
        refine HS.out.mono ?_
        rintro e w1 ⟨rfl, b1⟩
        have HB1 := Lib.hid b1
        have HQ1 := Lib.hid (quickNew w1)
        clear b1
        go_wp2_with fail
        refine HQ1.out.mono ?_
        rintro e w2 ⟨rfl, q2, b2⟩
        have hb2 : Below w.heap.size w w2 := HB1.out.trans (b2.mono HB1.out.size)
        have hl2 : Laid w2 := HH.out.2.2.1.below (HH.out.2.2.2.trans (hb2.mono hN))
        have hpw2 := HH.out.2.1.below hb2
        have HA := Lib.hid (smallAll hl2 hpw2)
        have c2 : w2.cell? ⟨l, 0, none⟩ = some (.iface 82 (.agg #[pv p])) := by rw [hb2.cell hlt]; exact c0
        have hs2 : w1.heap.size < w2.heap.size := q2.toF.lt q2.toF.head
        have HQ2 := Lib.hid (And.intro q2 (And.intro hb2 hs2))
        clear q2 b2 hb2 hl2 hpw2 HQ1
        go_wp2_with fail
        refine HA.out.mono ?_
        rintro e w3 ⟨⟨sv, rfl, s3⟩, b3⟩
        obtain ⟨a, cap, rfl, hr⟩ := s3.arg
        have hra := hr.1
        have hsz3 := b3.size
        have HS3 := Lib.hid s3
        have HI0 := Lib.hid (show (∃ G, QuickF w3 w1.heap.size G (L.take 0) ∧ ∀ k, G k → k = w1.heap.size ∨ w3.heap.size ≤ k) ∧ Below w.heap.size w w3 ∧ Chg (fun k => k = w1.heap.size) w3 w3 from
          ⟨⟨_, (by rw [List.take_zero]; exact HQ2.out.1.toF.below b3), fun k hk => .inl hk⟩, HQ2.out.2.1.trans (b3.mono HQ2.out.2.1.size), Chg.refl _ _⟩)
        clear hr s3 b3 HA HQ2 HS
        go_wp2_with fail
        go_loopw [28] (fun i wr => ∃ k : Nat, k ≤ L.length ∧ i = .int .i64 k ∧ Hid ((∃ G, QuickF wr w1.heap.size G (L.take k) ∧ ∀ k, G k → k = w1.heap.size ∨ w3.heap.size ≤ k) ∧ Below w.heap.size w wr ∧ Chg (fun k => k = w1.heap.size) w3 wr)) (fun i _ => L.length - (intOf i).toNat)
        case atStart => exact ⟨0, Nat.zero_le _, rfl, HI0⟩
        case round =>
          obtain ⟨k, hk, rfl, hI⟩ := hrel
          have hw1 := HB1.out.size
          by_cases hlt2 : k < L.length
          · obtain ⟨⟨G, hQ, hG⟩, hB, hC⟩ := hI.out
            obtain ⟨a', cap', e, har⟩ := (HS3.out.chg hC fun k hk e => by have := (HS3.out.block_lt hk).1; omega).arg
            cases e
            obtain ⟨b, o, hb, hc⟩ := har.2.resolve_left (by omega)
            subst hb
            have hkc : (L.map strV).getD k undef = .string (L.getD k ByteArray.empty) := by simp [List.getD, strV, hlt2]
            have hcell : wr.cell? ⟨b, o + k, none⟩ = some (.string (L.getD k ByteArray.empty)) := (hc k hlt2).trans (congrArg some hkc)
            have hmem : L.getD k ByteArray.empty ∈ L := by simp [List.getD, hlt2]
            have hys := HM.out _ hmem
            have hGb : ∀ k, G k → w.heap.size ≤ k := fun j hj => (hG j hj).elim (fun e => by omega) fun e => by omega
            have HIn := Lib.hid (quickInsert HH.out.2.2.1 (HH.out.2.2.2.trans (hB.mono hN)) (Nat.le_trans hN hB.size) hQ (fun j hj => Nat.le_trans hN (hGb j hj)) (k : Int) (by omega) (L.getD k ByteArray.empty) (by omega))
            have hlk : (L.take k).length = k := by rw [List.length_take]; omega
            have htk : L.take (k + 1) = L.take k ++ [L.getD k ByteArray.empty] := by rw [List.take_succ_eq_append_getElem hlt2]; simp [List.getD, hlt2]
            have hins : insQ (L.take k) k (L.getD k ByteArray.empty) = (0, L.take (k + 1)) := by
              unfold insQ
              rw [hlk, if_neg (by omega), if_neg (by omega), htk]
              rw [Int.toNat_natCast, List.take_of_length_le (by omega), List.drop_of_length_le (by omega), List.append_nil]
            rw [hins] at HIn
            have HNx := Lib.hid (show ∀ w', (∃ F', QuickF w' w1.heap.size F' (L.take (k + 1)) ∧ Fresh wr G F') → Chg G wr w' → (∃ G, QuickF w' w1.heap.size G (L.take (k + 1)) ∧ ∀ k, G k → k = w1.heap.size ∨ w3.heap.size ≤ k) ∧ Below w.heap.size w w' ∧ Chg (fun k => k = w1.heap.size) w3 w' from fun w' ⟨F', h1, h2⟩ hc =>
              ⟨⟨F', h1, fun j hj => (h2 j hj).elim (hG j) fun h => .inr (Nat.le_trans hC.size h)⟩, belowChg hB hc hB.size fun j hj _ => hGb j hj, hC.trans hc fun j hj hl => (hG j hj).resolve_right (by omega)⟩)
            clear hI hQ hG hB hC hins htk hc hlk hmem hGb hkc har
            generalize L.getD k ByteArray.empty = y at *
            go_wp2_with fail
            refine HIn.out.mono ?_
            rintro e w5 ⟨rfl, h1, h2⟩
            have HS := Lib.hid (HNx.out w5 h1 h2)
            clear h1 h2 HIn HNx
            go_wp2_with fail
            go_roundw
            case rel => exact ⟨k + 1, by omega, by go_num, HS⟩
            case measure => simp [intOf]; omega
          · obtain rfl : k = L.length := by omega
            obtain ⟨w6, hw6⟩ : ∃ w6, w6 = wr.setCell ⟨l, 0, none⟩ (greatV w1.heap.size) := ⟨_, rfl⟩
            have HE := Lib.hid (show (∃ F', ListF w6 l F' L false ∧ Fresh w F F') ∧ Chg F w w6 by
              obtain ⟨⟨G, hQ, hG⟩, hB, hC⟩ := hI.out
              rw [List.take_of_length_le (Nat.le_refl _)] at hQ
              exact HH.out.1.turn hB hQ (fun j hj => (hG j hj).elim (fun e => by omega) fun e => by omega) hw6)
            have c6 : wr.cell? ⟨l, 0, none⟩ = some (.iface 82 (.agg #[pv p])) := by rw [hI.out.2.1.cell hlt]; exact c0
            have h6 : wr.heap[l]? = some (.cells #[smallV p] 39 (0, 0)) := (Chg.of_below (fun _ => False) hI.out.2.1).keep HH.out.1.head id
            have f6 := frozen_in h6 0
            clear h6
            unfold greatV at hw6
            have HW := Lib.hid hw6
            clear hI hw6
            go_wp2_with fail
            rw [← HW.out]
            go_end0
            exact ⟨⟨_, rfl⟩, HE.out⟩
end Go.Proofs.YtlecnlnpgghmbaaGreatDoor

/- list: Push, Of. -/
namespace Go.Proofs.YtlecnlnpgghmbaaGreatDoor
set_option linter.unusedVariables false
set_option linter.unusedSimpArgs false
open Go.RowKit
theorem two_steps {w w2 w3 : World} {F F2 F3 : Nat → Prop} (f2 : Fresh w F F2) (c2 : Chg F w w2) (f3 : Fresh w2 F2 F3) (c3 : Chg F2 w2 w3) : Fresh w F F3 ∧ Chg F w w3 :=
  ⟨fun k hk => (f3 k hk).elim (f2 k) fun h => .inr (Nat.le_trans c2.size h), c2.trans c3 fun k hk hlt => (f2 k hk).resolve_right (by omega)⟩
/-- A text at an end. -/
def pushT (front : Bool) (L : List ByteArray) (s : ByteArray) : List ByteArray := if front then s :: L else L ++ [s]
def pushN (front : Bool) (L : List ByteArray) : Nat := if front then 0 else L.length
theorem pushT_at (front : Bool) (L : List ByteArray) (s : ByteArray) : L.take (pushN front L) ++ [s] ++ L.drop (pushN front L) = pushT front L s := by
  cases front <;> simp [pushT, pushN]
theorem pushN_le (front : Bool) (L : List ByteArray) : pushN front L ≤ L.length := by cases front <;> simp [pushN]
theorem pushT_mem {front : Bool} {L : List ByteArray} {s x : ByteArray} (h : x ∈ pushT front L s) : x ∈ L ∨ x = s := by
  cases front
  · simpa [pushT] using h
  · have : x = s ∨ x ∈ L := by simpa [pushT] using h
    exact this.symm
theorem pushT_len (front : Bool) (L : List ByteArray) (s : ByteArray) : (pushT front L s).length = L.length + 1 := by cases front <;> simp [pushT]
/-- Insert into the row of a list. -/
theorem ins_small {w0 w : World} (hl : Laid w0) (hb0 : Below w0.heap.size w0 w) {l p : Nat} {F Fr : Nat → Prop} {L : List ByteArray} (h : ListR w l F L true (smallV p) Fr) (hp : PackF w p Fr L) (h64 : ∀ s ∈ L, s.size ≤ 64) {i : Nat} (hi : i ≤ L.length) (s : ByteArray) (h32 : L.length + 1 ≤ 32) (hs : s.size ≤ 64) :
    Calls Tryz.prog 98 #[pv p, .int .i64 (i : Int), .string s] w fun e w' => e = .returned (.int .i64 0) ∧ (∃ F', ListF w' l F' (L.take i ++ [s] ++ L.drop i) true ∧ Fresh w F F') ∧ Chg F w w' := by
  have h1 := packInsert hp (hl.below hb0) (i : Int) (by omega) s (by omega)
  rw [insP_few hp.ok.each (by omega) hi (by omega)] at h1
  refine h1.mono ?_
  rintro e w' ⟨rfl, ⟨F', p', f'⟩, c'⟩
  have hlen := take_drop_len hi [s]
  have h2 := h.step c' (.inl ⟨rfl, p, rfl, p', by rw [hlen]; simpa using h32, fun x hx => ?_⟩) f' (by rw [hlen]; simp; omega)
  · exact ⟨rfl, ⟨_, ⟨_, _, h2.1⟩, h2.2.1⟩, h2.2.2⟩
  · simp only [List.mem_append, List.mem_singleton] at hx
    rcases hx with (hx | rfl) | hx
    · exact h64 x (List.mem_of_mem_take hx)
    · exact hs
    · exact h64 x (List.mem_of_mem_drop hx)
theorem ins_great {w0 w : World} (hl : Laid w0) (hb0 : Below w0.heap.size w0 w) (hN : w0.heap.size ≤ w.heap.size) {l q : Nat} {F Fr : Nat → Prop} {L : List ByteArray} (h : ListR w l F L false (greatV q) Fr) (hq : QuickF w q Fr L) (kF : ∀ k, F k → w0.heap.size ≤ k) {i : Nat} (hi : i ≤ L.length) (s : ByteArray) (hs : s.size ≤ 65536) (hn : L.length < 1048576) :
    Calls Tryz.prog 92 #[pv q, .int .i64 (i : Int), .string s] w fun e w' => e = .returned (.int .i64 0) ∧ (∃ F', ListF w' l F' (L.take i ++ [s] ++ L.drop i) false ∧ Fresh w F F') ∧ Chg F w w' := by
  have h1 := quickInsert hl hb0 hN hq (fun k hk => kF k ((h.all k).2 (.inr hk))) (i : Int) (by omega) s (by omega)
  have hins : insQ L (i : Int) s = (0, L.take i ++ [s] ++ L.drop i) := by
    unfold insQ
    rw [if_neg (by omega), if_neg (by omega), Int.toNat_natCast]
  rw [hins] at h1
  refine h1.mono ?_
  rintro e w' ⟨rfl, ⟨F', p', f'⟩, c'⟩
  have h2 := h.step c' (.inr ⟨rfl, q, rfl, p'⟩) f' (by rw [take_drop_len hi]; simp; omega)
  exact ⟨rfl, ⟨_, ⟨_, _, h2.1⟩, h2.2.1⟩, h2.2.2⟩
set_option maxHeartbeats 800000 in
set_option maxRecDepth 100000 in
theorem pushL {w0 w : World} (hl : Laid w0) (hb0 : Below w0.heap.size w0 w) (hN : w0.heap.size ≤ w.heap.size) {l : Nat} {F : Nat → Prop} {L : List ByteArray} {sm : Bool} (h : ListF w l F L sm) (kF : ∀ k, F k → w0.heap.size ≤ k) (front : Bool) (s : ByteArray) (hs : s.size ≤ 65536) (hn : L.length < 1048576) :
    Calls Tryz.prog 19 #[pv l, .bool front, .string s] w fun e w' => e = .returned (.int .i64 0) ∧ (∃ F', ListF w' l F' (pushT front L s) (sm && keeps ((L.length : Int) + 1) s) ∧ Fresh w F F') ∧ Chg F w w' := by
  obtain ⟨v, Fr, h⟩ := h
  have HG := Lib.hid (goneL h)
  have HL := Lib.hid (lenL h)
  have HGr := Lib.hid (growL hl hb0 hN h ((L.length : Int) + 1) (by omega) s (by omega))
  have g1 : decide (65536 < s.size) = false := decide_eq_false (by omega)
  have g2 : decide ((1048576 : Int) ≤ (L.length : Int)) = false := decide_eq_false (by omega)
  have g3 : decide ((L.length : Int) ≥ (1048576 : Int)) = false := decide_eq_false (by omega)
  have g4 : decide ((65536 : Int) < (s.size : Int)) = false := decide_eq_false (by omega)
  have HH := Lib.hid (And.intro hl (And.intro hb0 (And.intro hN (And.intro kF (And.intro hs hn)))))
  have hE : pushT front L s = L.take (pushN front L) ++ [s] ++ L.drop (pushN front L) := (pushT_at front L s).symm
  have hi := pushN_le front L
  obtain ⟨T, hT⟩ : ∃ T, T = pushT front L s := ⟨_, rfl⟩
  rw [← hT] at hE ⊢
  obtain ⟨sm2, hsm2⟩ : ∃ b, b = (sm && keeps ((L.length : Int) + 1) s) := ⟨_, rfl⟩
  rw [← hsm2] at HGr ⊢
  have HE := Lib.hid (And.intro hE (And.intro hi (And.intro hsm2 (And.intro hs hn))))
  have hn9 : L.length ≤ 1000000000 := by omega
  clear h hl hb0 kF hE hi hT hsm2 hs hn
  cases front
  all_goals
    go_enter Tryz.func19, Tryz.ntmps19
    go_wp2_with fail
    refine HG.out.mono ?_
    rintro e w' ⟨rfl, rfl⟩
    go_wp2_with fail
    refine HL.out.mono ?_
    rintro e w' ⟨rfl, rfl⟩
    go_wp2_with fail
    refine HL.out.mono ?_
    rintro e w' ⟨rfl, rfl⟩
    go_wp2_with fail
    refine HGr.out.mono ?_
    rintro e w2 ⟨⟨vv, rfl⟩, ⟨F2, ⟨v2, Fr2, h2⟩, f2⟩, c2⟩
    have HL2 := Lib.hid (lenL h2)
    have x2 : w2.cell? ⟨l, 0, none⟩ = some v2 := cell_in h2.head (i := 0) rfl
    have hb2 : Below w0.heap.size w0 w2 := belowChg HH.out.2.1 c2 HH.out.2.2.1 fun k hk _ => HH.out.2.2.2.1 k hk
    have hN2 := Nat.le_trans HH.out.2.2.1 c2.size
    have hF2 : ∀ k, F2 k → w0.heap.size ≤ k := fun k hk => (f2 k hk).elim (HH.out.2.2.2.1 k) fun h => Nat.le_trans HH.out.2.2.1 h
    rcases h2.row with ⟨hsm, p, rfl, hp, h32, h64⟩ | ⟨hsm, q, rfl, hq⟩
    case' inl =>
      rw [hsm] at h2
      have hkp : (L.length : Int) + 1 ≤ 32 ∧ s.size ≤ 64 := by
        have := HE.out.2.2.1
        rw [hsm] at this
        have := (Bool.and_eq_true _ _ ▸ this.symm : sm = true ∧ keeps ((L.length : Int) + 1) s = true).2
        unfold keeps at this
        simpa using this
      have HI := Lib.hid (ins_small HH.out.1 hb2 h2 hp h64 HE.out.2.1 s (by omega) hkp.2)
      unfold smallV at x2
      clear hp h32 h64 hkp
    case' inr =>
      rw [hsm] at h2
      have HI := Lib.hid (ins_great HH.out.1 hb2 hN2 h2 hq hF2 HE.out.2.1 s HE.out.2.2.2.1 HE.out.2.2.2.2)
      unfold greatV at x2
      clear hq
    all_goals
      rw [← HE.out.1] at HI
      first | rw [show ((pushN true L : Nat) : Int) = 0 from rfl] at HI | rw [show ((pushN false L : Nat) : Int) = (L.length : Int) from rfl] at HI
      rw [← hsm] at HI
      have HC := Lib.hid (And.intro f2 c2)
      clear h2 hb2 hN2 hF2 hsm f2 c2
      go_wp2_with fail
      refine HL2.out.mono ?_
      rintro e w' ⟨rfl, rfl⟩
      go_wp2_with fail
      refine HI.out.mono ?_
      rintro e w3 ⟨rfl, ⟨F3, h3, f3⟩, c3⟩
      have HR := Lib.hid (And.intro h3 (two_steps HC.out.1 HC.out.2 f3 c3))
      clear h3 f3 c3
      go_wp2_with fail
      go_ret
      exact ⟨rfl, ⟨_, HR.out.1, HR.out.2.1⟩, HR.out.2.2⟩
end Go.Proofs.YtlecnlnpgghmbaaGreatDoor

/- list: Of. -/
namespace Go.Proofs.YtlecnlnpgghmbaaGreatDoor
set_option linter.unusedVariables false
set_option linter.unusedSimpArgs false
open Go.RowKit
/-- Is a list of these small? -/
def smallT (L : List ByteArray) : Bool := decide (L.length ≤ 32) && L.all fun s => decide (s.size ≤ 64)
theorem smallT_push (L : List ByteArray) (s : ByteArray) : smallT (L ++ [s]) = (smallT L && keeps ((L.length : Int) + 1) s) := by
  unfold smallT keeps
  rw [List.all_append, List.length_append, List.length_singleton, List.all_cons, List.all_nil, Bool.and_true]
  by_cases h1 : L.length + 1 ≤ 32
  · rw [decide_eq_true h1, decide_eq_true (show L.length ≤ 32 by omega), decide_eq_true (show (L.length : Int) + 1 ≤ 32 by omega)]
    simp
  · rw [decide_eq_false h1, decide_eq_false (show ¬ (L.length : Int) + 1 ≤ 32 by omega)]
    simp
set_option maxHeartbeats 800000 in
set_option maxRecDepth 100000 in
theorem ofL {w : World} (hl : Laid w) (a : Option Addr) (n cap : Nat) (zs : List ByteArray) (hlen : zs.length = n) (ha : ArgRow w a n cap fun i => .string (zs.getD i ByteArray.empty)) (hz : ∀ s ∈ zs, s.size ≤ 65536) (hn : n ≤ 100000) :
    Calls Tryz.prog 8 #[.slice a n cap] w fun e w' => (∃ l F, e = .returned (.tuple #[pv l, .int .i64 0]) ∧ ListF w' l F zs (smallT zs) ∧ ∀ k, F k → w.heap.size ≤ k) ∧ Below w.heap.size w w' := by
  have hac := ha.1
  have HA := Lib.hid ha
  have HLn := Lib.hid hlen
  have HZ := Lib.hid hz
  have HLd := Lib.hid hl
  have HN := Lib.hid (newL w)
  clear ha hlen hz hl
  go_enter Tryz.func8, Tryz.ntmps8
  go_wp2_with fail
  refine HN.out.mono ?_
  rintro e w1 ⟨⟨l, F0, rfl, q1, k1⟩, b1⟩
  have HQ := Lib.hid (And.intro q1 (And.intro k1 b1))
  clear q1 k1 b1 HN
  go_wp2_with fail
  go_loopw [11] (fun i wr => ∃ k : Nat, k ≤ n ∧ i = .int .i64 k ∧ Hid ((∃ F, ListF wr l F (zs.take k) (smallT (zs.take k)) ∧ ∀ k, F k → w.heap.size ≤ k) ∧ Below w.heap.size w wr)) (fun i _ => n - (intOf i).toNat)
  case atStart => exact ⟨0, Nat.zero_le _, rfl, Lib.hid ⟨⟨_, by simpa [smallT] using HQ.out.1, HQ.out.2.1⟩, HQ.out.2.2⟩⟩
  case round =>
    obtain ⟨k, hk, rfl, hI⟩ := hrel
    by_cases hlt : k < n
    · obtain ⟨b, o, hb, hc⟩ := HA.out.2.resolve_left (by omega)
      subst hb
      have hcell : w.cell? ⟨b, o + k, none⟩ = some (.string (zs.getD k ByteArray.empty)) := hc k hlt
      have hkl : k < zs.length := by rw [HLn.out]; exact hlt
      have hcell' : wr.cell? ⟨b, o + k, none⟩ = some (.string (zs.getD k ByteArray.empty)) := by rw [hI.out.2.cell (World.block_lt_of_cell? w _ hcell)]; exact hcell
      obtain ⟨⟨F, hP, hF⟩, hB⟩ := hI.out
      have hmem : zs.getD k ByteArray.empty ∈ zs := by simp [List.getD, hkl]
      have hlk : (zs.take k).length = k := by rw [List.length_take]; omega
      have htk : zs.take (k + 1) = zs.take k ++ [zs.getD k ByteArray.empty] := by rw [List.take_succ_eq_append_getElem hkl]; simp [List.getD, hkl]
      have HIn := Lib.hid (pushL HLd.out hB hB.size hP hF false (zs.getD k ByteArray.empty) (HZ.out _ hmem) (by omega))
      rw [show pushT false (zs.take k) (zs.getD k ByteArray.empty) = zs.take (k + 1) from htk.symm, ← smallT_push, ← htk] at HIn
      have HNx := Lib.hid (show ∀ w', (∃ F', ListF w' l F' (zs.take (k + 1)) (smallT (zs.take (k + 1))) ∧ Fresh wr F F') → Chg F wr w' → (∃ F, ListF w' l F (zs.take (k + 1)) (smallT (zs.take (k + 1))) ∧ ∀ k, F k → w.heap.size ≤ k) ∧ Below w.heap.size w w' from fun w' ⟨F', h1, h2⟩ hc =>
        ⟨⟨F', h1, fun j hj => (h2 j hj).elim (hF j) fun h => Nat.le_trans hB.size h⟩, belowChg hB hc hB.size fun j hj _ => hF j hj⟩)
      clear hI hP hF hB htk hcell hc hlk hmem
      generalize zs.getD k ByteArray.empty = y at *
      go_wp2_with fail
      refine HIn.out.mono ?_
      rintro e w2 ⟨rfl, h1, h2⟩
      have HS := Lib.hid (HNx.out w2 h1 h2)
      clear h1 h2 HIn HNx
      go_wp2_with fail
      go_roundw
      case rel => exact ⟨k + 1, by omega, by go_num, HS⟩
      case measure => simp [intOf]; omega
    · obtain rfl : k = n := by omega
      have HS := Lib.hid (show (∃ F, ListF wr l F zs (smallT zs) ∧ ∀ k, F k → w.heap.size ≤ k) ∧ Below w.heap.size w wr by
        have := hI.out
        rw [List.take_of_length_le (by have := HLn.out; omega)] at this
        exact this)
      clear hI
      go_wp2_with fail
      go_ret2
      obtain ⟨⟨F, h1, h2⟩, h3⟩ := HS.out
      exact ⟨⟨l, F, rfl, h1, h2⟩, h3⟩
end Go.Proofs.YtlecnlnpgghmbaaGreatDoor

/- list: Delete in its row. -/
namespace Go.Proofs.YtlecnlnpgghmbaaGreatDoor
set_option linter.unusedVariables false
set_option linter.unusedSimpArgs false
open Go.RowKit
theorem delP_cut {L : List ByteArray} {i m : Nat} (h : i + m ≤ L.length) : delP L (i : Int) (m : Int) = (0, L.take i ++ L.drop (i + m)) := by
  unfold delP
  rw [if_neg (by omega), Int.toNat_natCast, Int.toNat_natCast]
theorem mem_cut {L : List ByteArray} {i m : Nat} {x : ByteArray} (h : x ∈ L.take i ++ L.drop (i + m)) : x ∈ L := by
  rcases List.mem_append.1 h with h | h
  · exact List.mem_of_mem_take h
  · exact List.mem_of_mem_drop h
theorem cut_len {L : List ByteArray} {i m : Nat} (h : i + m ≤ L.length) : (L.take i ++ L.drop (i + m)).length = L.length - m := by simp; omega
theorem del_small {w0 w : World} (hl : Laid w0) (hb0 : Below w0.heap.size w0 w) {l p : Nat} {F Fr : Nat → Prop} {L : List ByteArray} (h : ListR w l F L true (smallV p) Fr) (hp : PackF w p Fr L) (h32 : L.length ≤ 32) (h64 : ∀ s ∈ L, s.size ≤ 64) {i m : Nat} (hi : i + m ≤ L.length) :
    Calls Tryz.prog 105 #[pv p, .int .i64 (i : Int), .int .i64 (m : Int)] w fun e w' => e = .returned (.int .i64 0) ∧ (∃ F', ListF w' l F' (L.take i ++ L.drop (i + m)) true ∧ Fresh w F F') ∧ Chg F w w' := by
  have h1 := packDelete hp (hl.below hb0) (i : Int) (m : Int) (by omega) (by omega)
  rw [delP_cut hi] at h1
  refine h1.mono ?_
  rintro e w' ⟨rfl, ⟨F', p', f'⟩, c'⟩
  have h2 := h.step c' (.inl ⟨rfl, p, rfl, p', by rw [cut_len hi]; omega, fun x hx => h64 x (mem_cut hx)⟩) f' (by rw [cut_len hi]; omega)
  exact ⟨rfl, ⟨_, ⟨_, _, h2.1⟩, h2.2.1⟩, h2.2.2⟩
theorem del_great {w0 w : World} (hl : Laid w0) (hb0 : Below w0.heap.size w0 w) (hN : w0.heap.size ≤ w.heap.size) {l q : Nat} {F Fr : Nat → Prop} {L : List ByteArray} (h : ListR w l F L false (greatV q) Fr) (hq : QuickF w q Fr L) (kF : ∀ k, F k → w0.heap.size ≤ k) {i m : Nat} (hi : i + m ≤ L.length) :
    Calls Tryz.prog 168 #[pv q, .int .i64 (i : Int), .int .i64 (m : Int)] w fun e w' => e = .returned (.int .i64 0) ∧ (∃ F', ListF w' l F' (L.take i ++ L.drop (i + m)) false ∧ Fresh w F F') ∧ Chg F w w' := by
  have hf := h.few
  have h1 := quickDelete hl hb0 hN hq (fun k hk => kF k ((h.all k).2 (.inr hk))) (by omega) (i : Int) (m : Int) (by omega) (by omega)
  rw [delP_cut hi] at h1
  refine h1.mono ?_
  rintro e w' ⟨rfl, ⟨F', p', f'⟩, c'⟩
  have h2 := h.step c' (.inr ⟨rfl, q, rfl, p'⟩) f' (by rw [cut_len hi]; omega)
  exact ⟨rfl, ⟨_, ⟨_, _, h2.1⟩, h2.2.1⟩, h2.2.2⟩
end Go.Proofs.YtlecnlnpgghmbaaGreatDoor

/- list: Pop. -/
namespace Go.Proofs.YtlecnlnpgghmbaaGreatDoor
set_option linter.unusedVariables false
set_option linter.unusedSimpArgs false
open Go.RowKit
set_option maxHeartbeats 800000 in
set_option maxRecDepth 100000 in
theorem popL_none {w : World} {l : Nat} {F : Nat → Prop} {sm : Bool} (h : ListF w l F [] sm) (front : Bool) :
    Calls Tryz.prog 24 #[pv l, .bool front] w fun e w' => e = .returned (.tuple #[.string ByteArray.empty, .bool false]) ∧ w = w' := by
  obtain ⟨v, Fr, h⟩ := h
  have HL := Lib.hid (lenL h)
  clear h
  rw [List.length_nil, Int.natCast_zero] at HL
  go_enter Tryz.func24, Tryz.ntmps24
  go_wp2_with fail
  refine HL.out.mono ?_
  rintro e w' ⟨rfl, rfl⟩
  go_wp2_with fail
  go_ret2
  exact ⟨rfl, rfl⟩
end Go.Proofs.YtlecnlnpgghmbaaGreatDoor

/- list: Pop of a list that has texts. -/
namespace Go.Proofs.YtlecnlnpgghmbaaGreatDoor
set_option linter.unusedVariables false
set_option linter.unusedSimpArgs false
open Go.RowKit
/-- The place of what is popped. -/
def popN (front : Bool) (L : List ByteArray) : Nat := if front then 0 else L.length - 1
set_option maxHeartbeats 1600000 in
set_option maxRecDepth 100000 in
theorem popL {w0 w : World} (hl : Laid w0) (hb0 : Below w0.heap.size w0 w) (hN : w0.heap.size ≤ w.heap.size) {l : Nat} {F : Nat → Prop} {L : List ByteArray} {sm : Bool} (h : ListF w l F L sm) (kF : ∀ k, F k → w0.heap.size ≤ k) (front : Bool) (hne : 0 < L.length) :
    Calls Tryz.prog 24 #[pv l, .bool front] w fun e w' => e = .returned (.tuple #[.string (L.getD (popN front L) ByteArray.empty), .bool true]) ∧ (∃ F', ListF w' l F' (L.take (popN front L) ++ L.drop (popN front L + 1)) sm ∧ Fresh w F F') ∧ Chg F w w' := by
  obtain ⟨v, Fr, h⟩ := h
  have hf := h.few
  have HL := Lib.hid (lenL h)
  have hi : popN front L < L.length := by cases front <;> simp [popN] <;> omega
  have hat : (front = true ∧ ((popN front L : Nat) : Int) = 0) ∨ (front = false ∧ ((popN front L : Nat) : Int) = (L.length : Int) - 1) := by
    cases front
    · exact .inr ⟨rfl, by simp [popN]; omega⟩
    · exact .inl ⟨rfl, rfl⟩
  have g1 : decide ((L.length : Int) - 1 < 0) = false := decide_eq_false (by omega)
  have hn9 : L.length ≤ 1000000000 := by omega
  generalize popN front L = i at *
  have c0 : w.cell? ⟨l, 0, none⟩ = some v := cell_in h.head (i := 0) rfl
  have HD : ∀ w2, Below w.heap.size w w2 → Below w0.heap.size w0 w2 ∧ ListR w2 l F L sm v Fr := fun w2 b => ⟨hb0.trans (b.mono hN), h.chg (Chg.of_below (fun _ => False) b) fun _ _ => id⟩
  have hlt := heap_lt h.head
  rcases h.row with ⟨rfl, p, rfl, hp, h32, h64⟩ | ⟨rfl, q, rfl, hq⟩
  case' inl =>
    have HGt := Lib.hid (packGet hp (hl.below hb0) (i : Int) (by omega))
    rw [getV_nat hi] at HGt
    have HDl := Lib.hid (show ∀ w2, Below w.heap.size w w2 → _ from fun w2 b => del_small hl (HD w2 b).1 (HD w2 b).2 (hp.below b) h32 h64 (i := i) (m := 1) (by omega))
    unfold smallV at c0
  case' inr =>
    have HGt := Lib.hid (quickGet hq (hl.below hb0) hn9 (i : Int) (by omega))
    rw [qget_at hi] at HGt
    have HDl := Lib.hid (show ∀ w2, Below w.heap.size w w2 → _ from fun w2 b => del_great hl (HD w2 b).1 (Nat.le_trans hN b.size) (HD w2 b).2 (hq.below b) kF (i := i) (m := 1) (by omega))
    unfold greatV at c0
  all_goals
    have HB := Lib.hid (fun w2 (b : Below w.heap.size w w2) => b.cell (p := ⟨l, 0, none⟩) hlt)
    obtain ⟨X, hX⟩ : ∃ X, X = L.take i ++ L.drop (i + 1) := ⟨_, rfl⟩
    rw [← hX] at HDl ⊢
    clear h HD hl hb0 kF hX
    rcases hat with ⟨rfl, hz⟩ | ⟨rfl, hz⟩
    all_goals
      rw [hz] at HGt HDl
      clear hz
      generalize L.getD i ByteArray.empty = y at *
      go_enter Tryz.func24, Tryz.ntmps24
      go_wp2_with fail
      refine HL.out.mono ?_
      rintro e w' ⟨rfl, rfl⟩
      go_wp2_with fail
      refine HGt.out.mono ?_
      rintro e w2 ⟨rfl, b2⟩
      have c2 := (HB.out w2 b2).trans c0
      have HDw := Lib.hid (HDl.out w2 b2)
      have HB2 := Lib.hid b2
      clear b2
      go_wp2_with fail
      refine HDw.out.mono ?_
      rintro e w3 ⟨rfl, ⟨F3, h3, f3⟩, c3⟩
      have HE := Lib.hid (And.intro h3 (two_steps (F := F) (F2 := F) (fun k hk => .inl hk) (Chg.of_below F HB2.out) f3 c3))
      clear h3 f3 c3
      go_wp2_with fail
      go_ret2
      exact ⟨rfl, ⟨_, HE.out.1, HE.out.2.1⟩, HE.out.2.2⟩
end Go.Proofs.YtlecnlnpgghmbaaGreatDoor

/- list: bounds. -/
namespace Go.Proofs.YtlecnlnpgghmbaaGreatDoor
set_option linter.unusedVariables false
set_option linter.unusedSimpArgs false
open Go.RowKit
/-- The first and the last place that are meant. -/
def bdA (n : Nat) (a : Int) : Int := if a < 0 then max (a + n) 0 else a
def bdB (n : Nat) (b : Int) : Int := min (if b < 0 then b + n else b) ((n : Int) - 1)
set_option maxHeartbeats 800000 in
set_option maxRecDepth 100000 in
theorem boundsL {w : World} {l : Nat} {F : Nat → Prop} {L : List ByteArray} {sm : Bool} (h : ListF w l F L sm) (a b : Int) (ha : -9223372036854775808 ≤ a ∧ a ≤ 9223372036854775807) (hb : -9223372036854775808 ≤ b ∧ b ≤ 9223372036854775807) :
    Calls Tryz.prog 40 #[pv l, .int .i64 a, .int .i64 b] w fun e w' => e = .returned (.tuple #[.int .i64 (bdA L.length a), .int .i64 (bdB L.length b), .bool (decide (bdA L.length a ≤ bdB L.length b))]) ∧ w = w' := by
  have hf := h.few
  obtain ⟨v, Fr, h⟩ := h
  have HL := Lib.hid (lenL h)
  clear h
  generalize L.length = n at *
  have hn9 : n ≤ 1000000000 := by omega
  rcases (show (bdA n a = max (a + n) 0 ∧ decide (a < 0) = true ∧ a < 0) ∨ (bdA n a = a ∧ decide (a < 0) = false ∧ 0 ≤ a) by unfold bdA; by_cases h : a < 0 <;> simp [h] <;> omega) with ⟨ga, da, na⟩ | ⟨ga, da, na⟩
  all_goals
    rcases (show (bdB n b = min (b + n) ((n : Int) - 1) ∧ decide (b < 0) = true ∧ b < 0) ∨ (bdB n b = min b ((n : Int) - 1) ∧ decide (b < 0) = false ∧ 0 ≤ b) by unfold bdB; by_cases h : b < 0 <;> simp [h] <;> omega) with ⟨gb, db, nb⟩ | ⟨gb, db, nb⟩
    all_goals
      rw [ga, gb]
      clear ga gb
      go_enter Tryz.func40, Tryz.ntmps40
      go_wp2_with fail
      refine HL.out.mono ?_
      rintro e w' ⟨rfl, rfl⟩
      go_wp2_with fail
      refine bodyPost_ret (results_tmp3 rfl _ _ _) rfl ?_
      exact ⟨rfl, rfl⟩
end Go.Proofs.YtlecnlnpgghmbaaGreatDoor

/- list: Range. -/
namespace Go.Proofs.YtlecnlnpgghmbaaGreatDoor
set_option linter.unusedVariables false
set_option linter.unusedSimpArgs false
open Go.RowKit
/-- The texts of a stretch. -/
def rngL (L : List ByteArray) (a b : Int) : List ByteArray := rangeT L (rfN L.length a) (rtN L.length b)
theorem rngL_none {L : List ByteArray} {a b : Int} (h : ¬ bdA L.length a ≤ bdB L.length b) : rngL L a b = [] := by
  unfold bdA bdB at h
  unfold rngL rangeT rfN rtN
  apply List.drop_of_length_le
  rw [List.length_take]
  split at h <;> split at h <;> simp only [*, if_true, if_false] <;> omega
theorem rngL_some {L : List ByteArray} {a b : Int} (h : bdA L.length a ≤ bdB L.length b) : ∃ i j : Nat, bdA L.length a = i ∧ bdB L.length b = j ∧ i ≤ j ∧ j < L.length ∧ rngL L a b = (L.take (j + 1)).drop i := by
  have h0 : 0 ≤ bdA L.length a := by unfold bdA; split <;> omega
  have h1 : bdB L.length b < L.length := by unfold bdB; omega
  refine ⟨(bdA L.length a).toNat, (bdB L.length b).toNat, by omega, by omega, by omega, by omega, ?_⟩
  unfold bdA bdB at *
  unfold rngL rangeT rfN rtN
  generalize hn : L.length = n at *
  have ht : ∀ (x y : Nat), (x = y ∨ n ≤ x ∧ n ≤ y) → L.take x = L.take y := by
    rintro x y (rfl | ⟨hx, hy⟩)
    · rfl
    · rw [List.take_of_length_le (by omega), List.take_of_length_le (by omega)]
  have e1 : (if a < 0 then (a + n).toNat else a.toNat) = (if a < 0 then max (a + n) 0 else a).toNat := by split <;> omega
  rw [e1]
  congr 1
  apply ht
  split at h0 <;> split at h1 <;> simp only [*, if_true, if_false] <;> omega
set_option maxHeartbeats 1600000 in
set_option maxRecDepth 100000 in
theorem rangeL {w : World} (hl : Laid w) {l : Nat} {F : Nat → Prop} {L : List ByteArray} {sm : Bool} (h : ListF w l F L sm) (a b : Int) (ha : -9223372036854775808 ≤ a ∧ a ≤ 9223372036854775807) (hb : -9223372036854775808 ≤ b ∧ b ≤ 9223372036854775807) :
    Calls Tryz.prog 14 #[pv l, .int .i64 a, .int .i64 b] w fun e w' => (∃ v, e = .returned v ∧ SliceIs w' w.heap.size 9 v (rngL L a b).length ((rngL L a b).map strV)) ∧ Below w.heap.size w w' := by
  have hf := h.few
  have HB := Lib.hid (boundsL h a b ha hb)
  obtain ⟨v, Fr, h⟩ := h
  have c0 : w.cell? ⟨l, 0, none⟩ = some v := cell_in h.head (i := 0) rfl
  by_cases hab : bdA L.length a ≤ bdB L.length b
  · obtain ⟨i, j, e1, e2, hij, hj, e3⟩ := rngL_some hab
    have hd : decide (bdA L.length a ≤ bdB L.length b) = true := decide_eq_true hab
    rw [hd, e1, e2] at HB
    rw [e3]
    clear hd hab e1 e2 e3
    have hlen : ((L.take (j + 1)).drop i).length = j + 1 - i := by rw [List.length_drop, List.length_take]; omega
    rcases h.row with ⟨_, p, rfl, hp, _⟩ | ⟨_, p, rfl, hp⟩
    case' inl =>
      have HL := Lib.hid (smallAll hl hp)
      unfold smallV at c0
    case' inr =>
      have HL := Lib.hid (greatAll hl hp (by omega))
      unfold greatV at c0
    all_goals
      clear h hp hl
      go_enter Tryz.func14, Tryz.ntmps14
      go_wp2_with fail
      refine HB.out.mono ?_
      rintro e w' ⟨rfl, rfl⟩
      go_wp2_with fail
      refine HL.out.mono ?_
      rintro e w3 ⟨⟨sv, rfl, s3⟩, b3⟩
      obtain ⟨av, cap, rfl, har⟩ := s3.arg
      obtain ⟨bk, o, rfl, hc⟩ := har.2.resolve_left (by omega)
      have hcap := har.1
      obtain ⟨v1, w5, r1, s1, b5⟩ := append_texts (a := some ⟨bk, o + i, none⟩) (c := cap - i) (xs := []) (ys := (L.take (j + 1)).drop i) (m := j + 1 - i) (SliceIs.nil w3 w.heap.size 9) b3.size hlen
        (.inr ⟨bk, o + i, rfl, fun k hk => by
          rw [show o + i + k = o + (i + k) by omega, hc (i + k) (by omega)]
          simp [List.getD, List.getElem?_drop, List.getElem?_take, show i + k < j + 1 by omega, show i + k < L.length by omega]⟩) (by omega)
      rw [Nat.zero_add, List.nil_append] at s1
      have HR := Lib.hid r1
      have HS := Lib.hid (And.intro s1 (b3.trans b5))
      have hnc : ¬ cap = i := by omega
      clear r1 s1 b3 b5 har hc s3
      go_wp2_with (at_builtin; refine wpList_append_run rfl rfl HR.out ?_)
      go_ret
      rw [hlen]
      exact ⟨⟨_, rfl, HS.out.1⟩, HS.out.2⟩
  · have hd : decide (bdA L.length a ≤ bdB L.length b) = false := decide_eq_false hab
    rw [hd] at HB
    rw [rngL_none hab]
    clear h c0 hl hd hab
    generalize bdA L.length a = x at *
    generalize bdB L.length b = y at *
    go_enter Tryz.func14, Tryz.ntmps14
    go_wp2_with fail
    refine HB.out.mono ?_
    rintro e w' ⟨rfl, rfl⟩
    go_wp2_with fail
    go_ret
    exact ⟨⟨_, rfl, SliceIs.nil _ _ _⟩, Below.refl _ _⟩
end Go.Proofs.YtlecnlnpgghmbaaGreatDoor

/- list: Charge. -/
namespace Go.Proofs.YtlecnlnpgghmbaaGreatDoor
set_option linter.unusedVariables false
set_option linter.unusedSimpArgs false
open Go.RowKit
theorem rngL_all (L : List ByteArray) : rngL L 0 (-1) = L := range_all L
/-- What a list costs. -/
def costL (L : List ByteArray) : Nat := (L.map fun s => 16 + s.size).sum
theorem costL_take {L : List ByteArray} {k : Nat} (h : k < L.length) : costL (L.take (k + 1)) = costL (L.take k) + (16 + (L.getD k ByteArray.empty).size) := by
  unfold costL
  rw [List.take_succ_eq_append_getElem h, List.map_append, List.sum_append]
  simp [List.getD, h]
theorem costL_le : ∀ (L : List ByteArray), (∀ s ∈ L, s.size ≤ 65536) → costL L ≤ 65552 * L.length
  | [], _ => by simp [costL]
  | s :: L, h => by
    have h1 := costL_le L fun x hx => h x (by simp [hx])
    have h2 := h s (by simp)
    unfold costL at h1 ⊢
    simp only [List.map_cons, List.sum_cons, List.length_cons]
    omega
set_option maxHeartbeats 1600000 in
set_option maxRecDepth 100000 in
theorem chargeL {w : World} (hl : Laid w) {l : Nat} {F : Nat → Prop} {L : List ByteArray} {sm : Bool} (h : ListF w l F L sm) :
    Calls Tryz.prog 38 #[pv l] w fun e w' => e = .returned (.int .i64 (costL L)) ∧ Below w.heap.size w w' := by
  have hf := h.few
  have hz := fun s hs => h.size (s := s) hs
  have HR := Lib.hid (rangeL hl h 0 (-1) (by omega) (by omega))
  rw [rngL_all] at HR
  have HC := Lib.hid (fun k => costL_le (L.take k) fun s hs => hz s (List.mem_of_mem_take hs))
  have HZ := Lib.hid hz
  clear h hl hz
  obtain ⟨r, hr⟩ : ∃ r, r = costL L := ⟨_, rfl⟩
  rw [← hr]
  have HRs := Lib.hid hr
  clear hr
  go_enter Tryz.func38, Tryz.ntmps38
  go_wp2_with fail
  refine HR.out.mono ?_
  rintro e w1 ⟨⟨v, rfl, s1⟩, b1⟩
  obtain ⟨av, cap, rfl, har⟩ := s1.arg
  have hcap := har.1
  have HA := Lib.hid har
  have HB := Lib.hid b1
  clear har b1 s1
  go_wp2_with fail
  go_loop [3, 9] (fun n i => ∃ k : Nat, k ≤ L.length ∧ i = .int .i64 k ∧ n = .int .i64 (costL (L.take k) : Nat)) (fun _ i => L.length - (intOf i).toNat)
  case atStart => exact ⟨0, Nat.zero_le _, rfl, rfl⟩
  case round =>
    obtain ⟨k, hk, rfl, rfl⟩ := hrel
    have hc := HC.out k
    rw [List.length_take] at hc
    by_cases hlt : k < L.length
    · obtain ⟨b, o, hb, hcl⟩ := HA.out.2.resolve_left (by omega)
      subst hb
      have hkc : (L.map strV).getD k undef = .string (L.getD k ByteArray.empty) := by simp [List.getD, strV, hlt]
      have hcell : w1.cell? ⟨b, o + k, none⟩ = some (.string (L.getD k ByteArray.empty)) := (hcl k hlt).trans (congrArg some hkc)
      have hy := HZ.out (L.getD k ByteArray.empty) (by simp [List.getD, hlt])
      have HN := Lib.hid (costL_take hlt)
      clear hcl hkc
      generalize L.getD k ByteArray.empty = y at *
      generalize costL (L.take k) = q at *
      go_wp2_with fail
      go_round
      case rel => exact ⟨k + 1, by omega, by go_num, by rw [HN.out]; go_num⟩
      case measure => simp [intOf]; omega
    · obtain rfl : k = L.length := by omega
      rw [List.take_of_length_le (Nat.le_refl _), ← HRs.out] at hc ⊢
      go_wp2_with fail
      go_ret
      exact ⟨rfl, HB.out⟩
end Go.Proofs.YtlecnlnpgghmbaaGreatDoor

/- list: Trim. -/
namespace Go.Proofs.YtlecnlnpgghmbaaGreatDoor
set_option linter.unusedVariables false
set_option linter.unusedSimpArgs false
open Go.RowKit
set_option maxHeartbeats 3200000 in
set_option maxRecDepth 100000 in
theorem trimL {w0 w : World} (hl : Laid w0) (hb0 : Below w0.heap.size w0 w) (hN : w0.heap.size ≤ w.heap.size) {l : Nat} {F : Nat → Prop} {L : List ByteArray} {sm : Bool} (h : ListF w l F L sm) (kF : ∀ k, F k → w0.heap.size ≤ k)
    (a b : Int) (ha : -9223372036854775808 ≤ a ∧ a ≤ 9223372036854775807) (hb : -9223372036854775808 ≤ b ∧ b ≤ 9223372036854775807) :
    Calls Tryz.prog 28 #[pv l, .int .i64 a, .int .i64 b] w fun e w' => (∃ v, e = .returned v) ∧ (∃ F', ListF w' l F' (rngL L a b) sm ∧ Fresh w F F') ∧ Chg F w w' := by
  have hf := h.few
  have HB := Lib.hid (boundsL h a b ha hb)
  obtain ⟨v, Fr, h⟩ := h
  have HG := Lib.hid (goneL h)
  have hbd : Below w.heap.size w w.drew := belowN (Below.refl _ _) 1
  have hd : ListR w.drew l F L sm v Fr := h.chg (Chg.of_below (fun _ => False) hbd) fun _ _ => id
  have HL := Lib.hid (lenL hd)
  have hb1 : Below w0.heap.size w0 w.drew := hb0.trans (hbd.mono hN)
  have c0 : w.drew.cell? ⟨l, 0, none⟩ = some v := cell_in hd.head (i := 0) rfl
  obtain ⟨X1, f, hX1, hff, hF⟩ := classOf (fun y => y.cell? ⟨l, 0, none⟩ = some v) (w := w.drew) c0
  have H0 := Lib.hid (hF w.drew c0)
  have HC1 := Lib.hid (Chg.drew F w)
  by_cases hab : bdA L.length a ≤ bdB L.length b
  · obtain ⟨i, j, e1, e2, hij, hj, e3⟩ := rngL_some hab
    have hdd : decide (bdA L.length a ≤ bdB L.length b) = true := decide_eq_true hab
    rw [hdd, e1, e2] at HB
    rw [e3]
    have HT := Lib.hid (show ∀ (w3 w4 : World) (F3 F4 : Nat → Prop), ListF w4 l F4 ((L.take (j + 1)).take 0 ++ (L.take (j + 1)).drop (0 + i)) sm → Fresh w.drew F F3 → Chg F w.drew w3 → Fresh w3 F3 F4 → Chg F3 w3 w4 → (∃ F', ListF w4 l F' ((L.take (j + 1)).drop i) sm ∧ Fresh w F F') ∧ Chg F w w4 from
      fun w3 w4 F3 F4 h4 f3 c3 f4 c4 => by
        rw [List.take_zero, List.nil_append, Nat.zero_add] at h4
        have h2 := two_steps f3 c3 f4 c4
        exact ⟨⟨F4, h4, h2.1⟩, HC1.out.trans h2.2 fun k hk _ => hk⟩)
    have hlj : (L.take (j + 1)).length = j + 1 := by rw [List.length_take]; omega
    clear hdd hab e1 e2 e3
    have HD2s := Lib.hid (show ∀ (w3 : World) (F3 Fr3 : Nat → Prop) (p : Nat), ListR w3 l F3 (L.take (j + 1)) true (smallV p) Fr3 → PackF w3 p Fr3 (L.take (j + 1)) → (L.take (j + 1)).length ≤ 32 → (∀ s ∈ L.take (j + 1), s.size ≤ 64) → Chg F w.drew w3 → Fresh w.drew F F3 → _ from
      fun w3 F3 Fr3 p h3 hp3 h32 h64 c3 f3 => del_small hl (belowChg hb1 c3 hb1.size fun k hk _ => kF k hk) h3 hp3 h32 h64 (i := 0) (m := i) (by omega))
    have HD2g := Lib.hid (show ∀ (w3 : World) (F3 Fr3 : Nat → Prop) (q : Nat), ListR w3 l F3 (L.take (j + 1)) false (greatV q) Fr3 → QuickF w3 q Fr3 (L.take (j + 1)) → Chg F w.drew w3 → Fresh w.drew F F3 → _ from
      fun w3 F3 Fr3 q h3 hq3 c3 f3 => del_great hl (belowChg hb1 c3 hb1.size fun k hk _ => kF k hk) (Nat.le_trans hb1.size c3.size) h3 hq3 (fun k hk => (f3 k hk).elim (kF k) fun h => Nat.le_trans hb1.size h) (i := 0) (m := i) (by omega))
    have hcut : L.take (j + 1) ++ L.drop (j + 1 + (L.length - j - 1)) = L.take (j + 1) := by rw [List.drop_of_length_le (by omega), List.append_nil]
    rcases hd.row with ⟨rfl, p, rfl, hp, h32, h64⟩ | ⟨rfl, q, rfl, hq⟩
    case' inl =>
      have HD := Lib.hid (del_small hl hb1 hd hp h32 h64 (i := j + 1) (m := L.length - j - 1) (by omega))
      unfold smallV at hff
      clear hp h32 h64
    case' inr =>
      have HD := Lib.hid (del_great hl hb1 hb1.size hd hq kF (i := j + 1) (m := L.length - j - 1) (by omega))
      unfold greatV at hff
      clear hq
    all_goals
      rw [hcut, show ((j + 1 : Nat) : Int) = (j : Int) + 1 from by omega, show ((L.length - j - 1 : Nat) : Int) = (L.length : Int) - (j : Int) - 1 from by omega] at HD
      clear h hd c0 hF hl hb0 hb1 kF hbd hcut
      go_enter Tryz.func28, Tryz.ntmps28
      go_wp2_with fail
      refine HG.out.mono ?_
      rintro e w' ⟨rfl, rfl⟩
      go_wp2_with fail
      refine HB.out.mono ?_
      rintro e w' ⟨rfl, rfl⟩
      go_wp2_with fail
      refine wp_region_text ⟨[7, 13], [], 13⟩ (fun w' => ∃ x : X1, w' = f x) (by kernel_rfl) (by kernel_rfl) H0.out ?_
      refine wpC_seg false (H0.out) 7 0 _ _ (by rfl) (by rfl) ?_
      simp only [List.take_succ_cons, List.take_zero, List.drop_succ_cons, List.drop_zero, Bool.false_eq_true, if_false, Nat.zero_add, Nat.reduceAdd]
      repeat (go_big_quiet_step (fail))
      refine wpQuiet_nil ?_
      refine wpC_loud (by rfl) (by rfl) fun K hK => ?_
      go_wp2_with fail
      refine HL.out.mono ?_
      rintro e w' ⟨rfl, rfl⟩
      refine hK _ _ (fun _ => H0.out) ?_
      clear hK
      refine wpC_seg false (H0.out) 5 8 _ _ (by rfl) (by rfl) ?_
      simp only [List.take_succ_cons, List.take_zero, List.drop_succ_cons, List.drop_zero, Bool.false_eq_true, if_false, Nat.zero_add, Nat.reduceAdd]
      repeat (go_big_quiet_step (fail))
      refine wpQuiet_nil ?_
      refine wpC_loud (by rfl) (by rfl) fun K hK => ?_
      go_wp2_with fail
      refine HD.out.mono ?_
      rintro e w3 ⟨rfl, ⟨F3, ⟨v3, Fr3, h3⟩, f3⟩, c3⟩
      have x3 : w3.cell? ⟨l, 0, none⟩ = some v3 := cell_in h3.head (i := 0) rfl
      have HH := Lib.hid (And.intro f3 c3)
      rcases h3.row with ⟨hs, p3, rfl, hp3, h32, h64⟩ | ⟨hs, q3, rfl, hq3⟩
      all_goals first | cases hs; done | skip
      all_goals
        first | have HD2 := Lib.hid (HD2s.out _ _ _ _ h3 hp3 h32 h64 c3 f3) | have HD2 := Lib.hid (HD2g.out _ _ _ _ h3 hq3 c3 f3)
        simp only [smallV, greatV] at x3
        clear h3 f3 c3 hs
        refine hK _ _ (fun h => absurd h (by decide)) ?_
        clear hK
        refine wpC_nil ?_
        go_wp2_with fail
        refine HD2.out.mono ?_
        rintro e w4 ⟨rfl, ⟨F4, h4, f4⟩, c4⟩
        have HE := Lib.hid (HT.out _ _ _ _ h4 HH.out.1 HH.out.2 f4 c4)
        clear h4 f4 c4
        go_wp2_with fail
        go_end0
        exact ⟨⟨_, rfl⟩, HE.out⟩
  · have hdd : decide (bdA L.length a ≤ bdB L.length b) = false := decide_eq_false hab
    rw [hdd] at HB
    rw [rngL_none hab]
    generalize bdA L.length a = x at *
    generalize bdB L.length b = y at *
    have hcut : L.take 0 ++ L.drop (0 + L.length) = [] := by rw [List.drop_of_length_le (by omega)]; simp
    rcases hd.row with ⟨rfl, p, rfl, hp, h32, h64⟩ | ⟨rfl, q, rfl, hq⟩
    case' inl =>
      have HD := Lib.hid (del_small hl hb1 hd hp h32 h64 (i := 0) (m := L.length) (by omega))
      unfold smallV at hff
      clear hp h32 h64
    case' inr =>
      have HD := Lib.hid (del_great hl hb1 hb1.size hd hq kF (i := 0) (m := L.length) (by omega))
      unfold greatV at hff
      clear hq
    all_goals
      rw [hcut, show ((0 : Nat) : Int) = 0 from rfl] at HD
      clear h hd c0 hF hl hb0 hb1 kF hbd hcut hdd hab
      go_enter Tryz.func28, Tryz.ntmps28
      go_wp2_with fail
      refine HG.out.mono ?_
      rintro e w' ⟨rfl, rfl⟩
      go_wp2_with fail
      refine HB.out.mono ?_
      rintro e w' ⟨rfl, rfl⟩
      go_wp2_with fail
      refine wp_region_text ⟨[5, 8], [], 8⟩ (fun w' => ∃ x : X1, w' = f x) (by kernel_rfl) (by kernel_rfl) H0.out ?_
      refine wpC_seg false (H0.out) 5 0 _ _ (by rfl) (by rfl) ?_
      simp only [List.take_succ_cons, List.take_zero, List.drop_succ_cons, List.drop_zero, Bool.false_eq_true, if_false, Nat.zero_add, Nat.reduceAdd]
      repeat (go_big_quiet_step (fail))
      refine wpQuiet_nil ?_
      refine wpC_loud (by rfl) (by rfl) fun K hK => ?_
      go_wp2_with fail
      refine HL.out.mono ?_
      rintro e w' ⟨rfl, rfl⟩
      refine hK _ _ (fun _ => H0.out) ?_
      clear hK
      refine wpC_seg false (H0.out) 2 6 _ _ (by rfl) (by rfl) ?_
      simp only [List.take_succ_cons, List.take_zero, List.drop_succ_cons, List.drop_zero, Bool.false_eq_true, if_false, Nat.zero_add, Nat.reduceAdd]
      repeat (go_big_quiet_step (fail))
      refine wpQuiet_nil ?_
      refine wpC_loud (by rfl) (by rfl) fun K hK => ?_
      go_wp2_with fail
      refine HD.out.mono ?_
      rintro e w3 ⟨rfl, ⟨F3, h3, f3⟩, c3⟩
      have HE := Lib.hid (show (∃ F', ListF w3 l F' [] _ ∧ Fresh w F F') ∧ Chg F w w3 from ⟨⟨F3, h3, f3⟩, HC1.out.trans c3 fun k hk _ => hk⟩)
      clear h3 f3 c3
      refine hK _ _ (fun h => absurd h (by decide)) ?_
      clear hK
      refine wpC_nil ?_
      go_wp2_with fail
      refine bodyPost_ret (results_none rfl _ _ _) rfl ?_
      exact ⟨⟨_, rfl⟩, HE.out⟩
end Go.Proofs.YtlecnlnpgghmbaaGreatDoor

/- list: what Remove takes and leaves, in plain words. -/
namespace Go.Proofs.YtlecnlnpgghmbaaGreatDoor
set_option linter.unusedVariables false
set_option linter.unusedSimpArgs false
open Go.RowKit
/-- Places of a text, counted from k on. -/
def plcF (s : ByteArray) : Nat → List ByteArray → List Nat
  | _, [] => []
  | k, x :: L => if x = s then k :: plcF s (k + 1) L else plcF s (k + 1) L
/-- What is left when the places number lo to hi - 1 of a text are taken. -/
def remF (s : ByteArray) (lo hi : Nat) : Nat → List ByteArray → List ByteArray
  | _, [] => []
  | q, x :: L => if x = s then (if lo ≤ q ∧ q < hi then remF s lo hi (q + 1) L else x :: remF s lo hi (q + 1) L) else x :: remF s lo hi q L
def cutAt (p : Nat) (M : List ByteArray) : List ByteArray := M.take p ++ M.drop (p + 1)
def cuts (L : List ByteArray) (ps : List Nat) : List ByteArray := ps.foldr cutAt L
def selF (lo hi : Nat) : Nat → List Nat → List Nat
  | _, [] => []
  | q, p :: ps => if lo ≤ q ∧ q < hi then p :: selF lo hi (q + 1) ps else selF lo hi (q + 1) ps
theorem cutAt_mid (P : List ByteArray) (x : ByteArray) (M : List ByteArray) : cutAt P.length (P ++ x :: M) = P ++ M := by
  unfold cutAt
  rw [List.take_left', List.drop_append]
  · simp [List.drop_eq_nil_of_le]
  · rfl
theorem cuts_sel (s : ByteArray) (lo hi : Nat) : ∀ (L P : List ByteArray) (q : Nat), cuts (P ++ L) (selF lo hi q (plcF s P.length L)) = P ++ remF s lo hi q L
  | [], P, q => by simp [plcF, selF, cuts, remF]
  | x :: L, P, q => by
    have h1 := fun q' => cuts_sel s lo hi L (P ++ [x]) q'
    simp only [List.length_append, List.length_singleton, List.append_assoc, List.singleton_append] at h1
    unfold plcF remF
    by_cases hx : x = s
    · rw [if_pos hx, if_pos hx]
      unfold selF
      by_cases hq : lo ≤ q ∧ q < hi
      · rw [if_pos hq, if_pos hq]
        show cutAt P.length (cuts (P ++ x :: L) _) = _
        rw [h1, cutAt_mid]
      · rw [if_neg hq, if_neg hq, h1]
    · rw [if_neg hx, if_neg hx, h1]
theorem selF_eq (lo hi : Nat) : ∀ (ps : List Nat) (q : Nat), selF lo hi q ps = (ps.take (hi - q)).drop (lo - q)
  | [], q => by simp [selF]
  | p :: ps, q => by
    unfold selF
    rw [selF_eq lo hi ps (q + 1)]
    by_cases h1 : q < hi
    · have e : hi - q = (hi - (q + 1)) + 1 := by omega
      rw [e, List.take_succ_cons]
      by_cases h2 : lo ≤ q
      · rw [if_pos ⟨h2, h1⟩, show lo - q = 0 by omega, show lo - (q + 1) = 0 by omega]; simp
      · rw [if_neg (by omega), show lo - q = (lo - (q + 1)) + 1 by omega, List.drop_succ_cons]
    · rw [if_neg (by omega), show hi - q = 0 by omega, show hi - (q + 1) = 0 by omega]; simp
theorem plcF_lt (s : ByteArray) : ∀ (L : List ByteArray) (k : Nat), ∀ p ∈ plcF s k L, k ≤ p ∧ p < k + L.length
  | [], k, p, h => by simp [plcF] at h
  | x :: L, k, p, h => by
    unfold plcF at h
    have h2 : p ∈ plcF s (k + 1) L → k ≤ p ∧ p < k + (x :: L).length := fun h => by have := plcF_lt s L (k + 1) p h; simp; omega
    split at h
    · rcases List.mem_cons.1 h with rfl | h
      · simp
      · exact h2 h
    · exact h2 h
theorem plcF_snoc (s : ByteArray) : ∀ (L : List ByteArray) (k : Nat) (x : ByteArray), plcF s k (L ++ [x]) = if x = s then plcF s k L ++ [k + L.length] else plcF s k L
  | [], k, x => by simp [plcF]
  | y :: L, k, x => by
    rw [List.cons_append]
    unfold plcF
    rw [plcF_snoc s L (k + 1) x, List.length_cons, show k + 1 + L.length = k + (L.length + 1) by omega]
    split <;> split <;> simp
theorem plcF_len (s : ByteArray) : ∀ (L : List ByteArray) (k : Nat), (plcF s k L).length ≤ L.length
  | [], _ => by simp [plcF]
  | y :: L, k => by
    have := plcF_len s L (k + 1)
    unfold plcF
    split <;> simp <;> omega
theorem remF_snoc (s : ByteArray) (lo hi : Nat) : ∀ (L : List ByteArray) (q : Nat) (x : ByteArray), remF s lo hi q (L ++ [x]) = if x = s ∧ lo ≤ q + (plcF s 0 L).length ∧ q + (plcF s 0 L).length < hi then remF s lo hi q L else remF s lo hi q L ++ [x]
  | [], q, x => by
    simp [plcF, remF]
    by_cases h : x = s <;> simp [h]
  | y :: L, q, x => by
    have hl : ∀ (M : List ByteArray) (a b : Nat), (plcF s a M).length = (plcF s b M).length := by
      intro M
      induction M with
      | nil => intro a b; simp [plcF]
      | cons z M ih => intro a b; unfold plcF; split <;> simp [ih (a + 1) (b + 1)]
    rw [List.cons_append]
    unfold remF
    rw [remF_snoc s lo hi L q x, remF_snoc s lo hi L (q + 1) x]
    by_cases hy : y = s
    · have : (plcF s 0 (y :: L)).length = (plcF s 0 L).length + 1 := by rw [plcF, if_pos hy, List.length_cons, hl L 1 0]
      rw [this, if_pos hy, if_pos hy, show q + 1 + (plcF s 0 L).length = q + ((plcF s 0 L).length + 1) by omega]
      split <;> split <;> simp
    · have : (plcF s 0 (y :: L)).length = (plcF s 0 L).length := by rw [plcF, if_neg hy, hl L 1 0]
      rw [this, if_neg hy, if_neg hy]
      split <;> simp
theorem plcF_pair (s : ByteArray) : ∀ (L : List ByteArray) (k : Nat), List.Pairwise (· < ·) (plcF s k L)
  | [], k => by simp [plcF]
  | x :: L, k => by
    unfold plcF
    split
    · exact List.pairwise_cons.2 ⟨fun p hp => (plcF_lt s L (k + 1) p hp).1, plcF_pair s L (k + 1)⟩
    · exact plcF_pair s L (k + 1)
theorem cuts_take {L : List ByteArray} {p : Nat} (hp : p < L.length) : ∀ (qs : List Nat), (∀ q ∈ qs, p < q) → (cuts L qs).take (p + 1) = L.take (p + 1)
  | [], _ => rfl
  | q :: qs, h => by
    have ih := cuts_take hp qs fun x hx => h x (by simp [hx])
    have hq := h q (by simp)
    have hl : p + 1 ≤ (cuts L qs).length := by
      have := congrArg List.length ih
      rw [List.length_take, List.length_take] at this
      omega
    show (cutAt q (cuts L qs)).take (p + 1) = _
    unfold cutAt
    rw [List.take_append_of_le_length (by rw [List.length_take]; omega), List.take_take, show min (p + 1) q = p + 1 by omega, ih]
theorem cuts_lt {L : List ByteArray} {p : Nat} (hp : p < L.length) (qs : List Nat) (h : ∀ q ∈ qs, p < q) : p < (cuts L qs).length := by
  have := congrArg List.length (cuts_take hp qs h)
  rw [List.length_take, List.length_take] at this
  omega
/-- Which of the places go: from number lo to hi - 1. -/
def rmLo (n : Nat) (c : Int) : Nat := if c < 0 ∧ -(n : Int) < c then ((n : Int) + c).toNat else 0
def rmHi (n : Nat) (c : Int) : Nat := if 0 < c ∧ c < (n : Int) then c.toNat else n
theorem rm_le (n : Nat) (c : Int) : rmLo n c ≤ rmHi n c ∧ rmHi n c ≤ n := by unfold rmLo rmHi; split <;> split <;> omega
/-- What is left. -/
def remL (L : List ByteArray) (c : Int) (s : ByteArray) : List ByteArray := remF s (rmLo (plcF s 0 L).length c) (rmHi (plcF s 0 L).length c) 0 L
def goneP (L : List ByteArray) (c : Int) (s : ByteArray) : List Nat := ((plcF s 0 L).take (rmHi (plcF s 0 L).length c)).drop (rmLo (plcF s 0 L).length c)
theorem remL_cuts (L : List ByteArray) (c : Int) (s : ByteArray) : cuts L (goneP L c s) = remL L c s := by
  have := cuts_sel s (rmLo (plcF s 0 L).length c) (rmHi (plcF s 0 L).length c) L [] 0
  rw [selF_eq, Nat.sub_zero, Nat.sub_zero] at this
  simpa [goneP, remL] using this
theorem goneP_length (L : List ByteArray) (c : Int) (s : ByteArray) : (goneP L c s).length = rmHi (plcF s 0 L).length c - rmLo (plcF s 0 L).length c := by
  have := rm_le (plcF s 0 L).length c
  unfold goneP
  rw [List.length_drop, List.length_take]; omega
theorem goneP_pair (L : List ByteArray) (c : Int) (s : ByteArray) : List.Pairwise (· < ·) (goneP L c s) :=
  (plcF_pair s L 0).sublist ((List.drop_sublist _ _).trans (List.take_sublist _ _))
theorem goneP_lt (L : List ByteArray) (c : Int) (s : ByteArray) : ∀ p ∈ goneP L c s, p < L.length := fun p hp => by
  have := (plcF_lt s L 0 p (List.mem_of_mem_take (List.mem_of_mem_drop hp))).2
  omega
/-- One step of the taking, from behind. -/
theorem cuts_step {L : List ByteArray} {c : Int} {s : ByteArray} {k : Nat} (hk : k < (goneP L c s).length) :
    cuts L ((goneP L c s).drop k) = (cuts L ((goneP L c s).drop (k + 1))).take ((goneP L c s).getD k 0) ++ (cuts L ((goneP L c s).drop (k + 1))).drop ((goneP L c s).getD k 0 + 1) ∧
    (goneP L c s).getD k 0 + 1 ≤ (cuts L ((goneP L c s).drop (k + 1))).length := by
  have hg : (goneP L c s).getD k 0 = (goneP L c s)[k] := by simp [List.getD, hk]
  have hd := List.drop_eq_getElem_cons hk
  rw [hg]
  refine ⟨by rw [hd]; rfl, ?_⟩
  have hp := (goneP_pair L c s).sublist (List.drop_sublist k _)
  rw [hd] at hp
  exact cuts_lt (goneP_lt L c s _ (List.getElem_mem hk)) _ (List.pairwise_cons.1 hp).1
end Go.Proofs.YtlecnlnpgghmbaaGreatDoor

/- list: Remove. -/
namespace Go.Proofs.YtlecnlnpgghmbaaGreatDoor
set_option linter.unusedVariables false
set_option linter.unusedSimpArgs false
open Go.RowKit
abbrev plcV (n : Nat) : Value := .int .i64 (n : Int)
section
variable {w0 w wr : World} {l i : Nat} {F F3 : Nat → Prop} {M : List ByteArray}
theorem del_smallF {sm : Bool} (hsm : sm = true) (hl : Laid w0) (hb0 : Below w0.heap.size w0 w) (hN : w0.heap.size ≤ w.heap.size) (kF : ∀ k, F k → w0.heap.size ≤ k) (h3 : ListF wr l F3 M sm) (c3 : Chg F w wr) (hi : i + 1 ≤ M.length) : ∃ p, wr.cell? ⟨l, 0, none⟩ = some (smallV p) ∧
    Calls Tryz.prog 105 #[pv p, .int .i64 (i : Int), .int .i64 1] wr fun e w' => e = .returned (.int .i64 0) ∧ (∃ F', ListF w' l F' (M.take i ++ M.drop (i + 1)) sm ∧ Fresh wr F3 F') ∧ Chg F3 wr w' := by
  subst hsm
  obtain ⟨v3, Fr3, h3⟩ := h3
  rcases h3.row with ⟨_, p3, rfl, hp3, h32, h64⟩ | ⟨hh, _⟩
  · exact ⟨p3, cell_in h3.head (i := 0) rfl, del_small hl (belowChg hb0 c3 hN fun k hk _ => kF k hk) h3 hp3 h32 h64 (i := i) (m := 1) hi⟩
  · cases hh
theorem del_greatF {sm : Bool} (hsm : sm = false) (hl : Laid w0) (hb0 : Below w0.heap.size w0 w) (hN : w0.heap.size ≤ w.heap.size) (kF : ∀ k, F k → w0.heap.size ≤ k) (h3 : ListF wr l F3 M sm) (c3 : Chg F w wr) (k3 : ∀ k, F3 k → w0.heap.size ≤ k) (hi : i + 1 ≤ M.length) : ∃ p, wr.cell? ⟨l, 0, none⟩ = some (greatV p) ∧
    Calls Tryz.prog 168 #[pv p, .int .i64 (i : Int), .int .i64 1] wr fun e w' => e = .returned (.int .i64 0) ∧ (∃ F', ListF w' l F' (M.take i ++ M.drop (i + 1)) sm ∧ Fresh wr F3 F') ∧ Chg F3 wr w' := by
  subst hsm
  obtain ⟨v3, Fr3, h3⟩ := h3
  rcases h3.row with ⟨hh, _⟩ | ⟨_, q3, rfl, hq3⟩
  · cases hh
  · exact ⟨q3, cell_in h3.head (i := 0) rfl, del_great hl (belowChg hb0 c3 hN fun k hk _ => kF k hk) (Nat.le_trans hN c3.size) h3 hq3 k3 (i := i) (m := 1) hi⟩
end
set_option maxHeartbeats 6400000 in
set_option maxRecDepth 100000 in
theorem removeL {w0 w : World} (hl : Laid w0) (hb0 : Below w0.heap.size w0 w) (hN : w0.heap.size ≤ w.heap.size) {l : Nat} {F : Nat → Prop} {L : List ByteArray} {sm : Bool} (h : ListF w l F L sm) (kF : ∀ k, F k → w0.heap.size ≤ k)
    (c : Int) (hc : -9223372036854775808 ≤ c ∧ c ≤ 9223372036854775807) (s : ByteArray) :
    Calls Tryz.prog 30 #[pv l, .int .i64 c, .string s] w fun e w' => e = .returned (.int .i64 ((goneP L c s).length : Nat)) ∧ (∃ F', ListF w' l F' (remL L c s) sm ∧ Fresh w F F') ∧ Chg F w w' := by
  have hf := h.few
  have HLF := Lib.hid h
  have HFl := Lib.hid (fun k (hk : F k) => h.lt hk)
  obtain ⟨v, Fr, h⟩ := h
  have HG := Lib.hid (goneL h)
  have c0 : w.cell? ⟨l, 0, none⟩ = some v := cell_in h.head (i := 0) rfl
  have HK := Lib.hid (And.intro hl (And.intro hb0 (And.intro hN kF)))
  have HLh := Lib.hid h.head
  have hpl := plcF_len s L 0
  have HGl := Lib.hid (goneP_length L c s)
  obtain ⟨Q, hQ⟩ : ∃ Q, Q = goneP L c s := ⟨_, rfl⟩
  obtain ⟨P, hP⟩ : ∃ P, P = plcF s 0 L := ⟨_, rfl⟩
  obtain ⟨n, hn⟩ : ∃ n, n = P.length := ⟨_, rfl⟩
  rw [← hP, ← hn] at hpl
  have hQP : Q = (P.take (rmHi n c)).drop (rmLo n c) := by rw [hQ, hP, hn, hP]; rfl
  -- the places that go
  have hcase : (c = 0 ∧ Q = P) ∨ (0 < c ∧ c < (n : Int) ∧ Q = P.take c.toNat) ∨ (0 < c ∧ ¬ c < (n : Int) ∧ Q = P) ∨ (c < 0 ∧ -(n : Int) < c ∧ Q = P.drop ((n : Int) + c).toNat) ∨ (c < 0 ∧ ¬ -(n : Int) < c ∧ Q = P) := by
    rw [hQP]
    by_cases h1 : 0 < c
    · have e2 : rmLo n c = 0 := if_neg (by omega)
      by_cases h2 : c < (n : Int)
      · have e1 : rmHi n c = c.toNat := if_pos ⟨h1, h2⟩
        exact .inr (.inl ⟨h1, h2, by rw [e1, e2, List.drop_zero]⟩)
      · have e1 : rmHi n c = n := if_neg (by omega)
        exact .inr (.inr (.inl ⟨h1, h2, by rw [e1, e2, List.drop_zero, hn, List.take_length]⟩))
    · have e1 : rmHi n c = n := if_neg (by omega)
      by_cases h2 : c < 0
      · by_cases h3 : -(n : Int) < c
        · have e2 : rmLo n c = ((n : Int) + c).toNat := if_pos ⟨h2, h3⟩
          exact .inr (.inr (.inr (.inl ⟨h2, h3, by rw [e1, e2, hn, List.take_length]⟩)))
        · have e2 : rmLo n c = 0 := if_neg (by omega)
          exact .inr (.inr (.inr (.inr ⟨h2, h3, by rw [e1, e2, List.drop_zero, hn, List.take_length]⟩)))
      · have e2 : rmLo n c = 0 := if_neg (by omega)
        exact .inl ⟨by omega, by rw [e1, e2, List.drop_zero, hn, List.take_length]⟩
  have HP := Lib.hid (And.intro hP hn)
  have HQc := Lib.hid hQ
  rw [← hQ]
  have hrem : remL L c s = cuts L Q := by rw [hQ, remL_cuts]
  rw [hrem]
  clear hQP hrem hQ hP hn
  have hnn : n ≤ 1048576 := by omega
  rcases h.row with ⟨hsm, p, rfl, hp, h32, h64⟩ | ⟨hsm, q, rfl, hq⟩
  case' inl =>
    have HAll := Lib.hid (smallAll (hl.below hb0) hp)
    have HD := Lib.hid (fun (wr : World) (F3 : Nat → Prop) (M : List ByteArray) (i : Nat) (h3 : ListF wr l F3 M sm) (c3 : Chg F w wr) (k3 : ∀ k, F3 k → w0.heap.size ≤ k) (hi : i + 1 ≤ M.length) => del_smallF hsm hl hb0 hN kF h3 c3 hi)
    unfold smallV at c0 HD
    clear hp h32 h64 hsm
  case' inr =>
    have HAll := Lib.hid (greatAll (hl.below hb0) hq (by omega))
    have HD := Lib.hid (fun (wr : World) (F3 : Nat → Prop) (M : List ByteArray) (i : Nat) (h3 : ListF wr l F3 M sm) (c3 : Chg F w wr) (k3 : ∀ k, F3 k → w0.heap.size ≤ k) (hi : i + 1 ≤ M.length) => del_greatF hsm hl hb0 hN kF h3 c3 k3 hi)
    unfold greatV at c0 HD
    clear hq hsm
  all_goals
    clear h hl hb0 kF
    go_enter Tryz.func30, Tryz.ntmps30
    go_wp2_with fail
    refine HG.out.mono ?_
    rintro e w' ⟨rfl, rfl⟩
    go_wp2_with fail
    refine HAll.out.mono ?_
    rintro e w1 ⟨⟨tv, rfl, s1⟩, b1⟩
    obtain ⟨ta, tc, rfl, har⟩ := s1.arg
    have htc := har.1
    have HTA := Lib.hid har
    have HB1 := Lib.hid b1
    have HS1 := Lib.hid s1
    clear har b1 s1
    go_wp2_with fail
    go_loopw [7, 20] (fun v i wr => ∃ k : Nat, k ≤ L.length ∧ i = .int .i64 k ∧ Hid (SliceIs wr w1.heap.size 3 v (plcF s 0 (L.take k)).length ((plcF s 0 (L.take k)).map plcV) ∧ Below w1.heap.size w1 wr)) (fun _ i _ => L.length - (intOf i).toNat)
    case atStart => exact ⟨0, Nat.zero_le _, rfl, Lib.hid ⟨SliceIs.nil _ _ _, Below.refl _ _⟩⟩
    case round =>
      obtain ⟨k, hk, rfl, hI⟩ := hrel
      by_cases hlt : k < L.length
      · obtain ⟨b, o, hb, hcl⟩ := HTA.out.2.resolve_left (by omega)
        subst hb
        have hkc : (L.map strV).getD k undef = .string (L.getD k ByteArray.empty) := by simp [List.getD, strV, hlt]
        have hcell0 : w1.cell? ⟨b, o + k, none⟩ = some (.string (L.getD k ByteArray.empty)) := (hcl k hlt).trans (congrArg some hkc)
        have hcell : wr.cell? ⟨b, o + k, none⟩ = some (.string (L.getD k ByteArray.empty)) := by rw [hI.out.2.cell (World.block_lt_of_cell? w1 _ hcell0)]; exact hcell0
        have htk : L.take (k + 1) = L.take k ++ [L.getD k ByteArray.empty] := by rw [List.take_succ_eq_append_getElem hlt]; simp [List.getD, hlt]
        have hsn := plcF_snoc s (L.take k) 0 (L.getD k ByteArray.empty)
        rw [← htk, Nat.zero_add, List.length_take, Nat.min_eq_left (by omega)] at hsn
        have hpk := plcF_len s (L.take k) 0
        rw [List.length_take] at hpk
        clear hcl hkc hcell0 htk
        obtain ⟨av, cv, rfl, _⟩ := hI.out.1.arg
        generalize L.getD k ByteArray.empty = y at *
        obtain ⟨R, hR⟩ : ∃ R, plcF s 0 (L.take k) = R := ⟨_, rfl⟩
        rw [hR] at hsn hI hpk
        by_cases hys : y = s
        · have hq : (y.toList == s.toList) = true := by rw [hys]; exact beq_self_eq_true _
          rw [if_pos hys] at hsn
          obtain ⟨i0, g1, g2, g3, g4⟩ := info_parts info_int
          obtain ⟨v3, w3, hr, s3, b3⟩ := run_append_one (P := Tryz.prog) (t := 59) (ty := 59) Tryz.underlying59 g1 g2 g3 g4 rfl hI.out.1 hI.out.2.size (plcV k) rfl (by unfold maxLen; omega) (by omega)
          obtain ⟨a3, c3, rfl, _⟩ := s3.arg
          have HR := Lib.hid hr
          have HS := Lib.hid (show SliceIs w3 w1.heap.size 3 (.slice a3 (R.length + 1) c3) (plcF s 0 (L.take (k + 1))).length ((plcF s 0 (L.take (k + 1))).map plcV) ∧ Below w1.heap.size w1 w3 from ⟨by rw [hsn, List.length_append, List.length_singleton, List.map_append]; exact s3, hI.out.2.trans b3⟩)
          have HRl := Lib.hid hR
          clear hr s3 b3 hI g1 g2 g3 g4 hsn hR hys
          rw [HRl.out]
          generalize R.length = nR at *
          go_wp2_with (at_builtin; refine wpList_append_run rfl rfl HR.out ?_)
          go_roundw
          case rel => exact ⟨k + 1, by omega, by go_num, HS⟩
          case measure => simp [intOf]; omega
        · have hq : (y.toList == s.toList) = false := by
            rw [beq_eq_false_iff_ne, ne_eq, ByteArray.toList_eq, ByteArray.toList_eq]
            exact fun e => hys (ByteArray.ext (Array.toList_inj.1 e))
          rw [if_neg hys] at hsn
          have HS := Lib.hid (show SliceIs wr w1.heap.size 3 (.slice av R.length cv) (plcF s 0 (L.take (k + 1))).length ((plcF s 0 (L.take (k + 1))).map plcV) ∧ Below w1.heap.size w1 wr from ⟨by rw [hsn]; exact hI.out.1, hI.out.2⟩)
          have HRl := Lib.hid hR
          clear hI hsn hR hys
          rw [HRl.out]
          generalize R.length = nR at *
          go_wp2_with fail
          go_roundw
          case rel => exact ⟨k + 1, by omega, by go_num, HS⟩
          case measure => simp [intOf]; omega
      · obtain rfl : k = L.length := by omega
        rw [List.take_of_length_le (Nat.le_refl _), ← HP.out.1, ← HP.out.2] at hI
        obtain ⟨av, cv, rfl, har⟩ := hI.out.1.arg
        have hcv := har.1
        obtain ⟨w2, rfl⟩ : ∃ w2, w2 = wr := ⟨_, rfl⟩
        have hB2 := HB1.out.trans (hI.out.2.mono HB1.out.size)
        have hL2 := HLF.out.below hB2
        have hav : ∀ b o, av = some ⟨b, o, none⟩ → w.heap.size ≤ b ∧ b < w2.heap.size := fun b o e => by
          subst e
          have := hI.out.1.block_lt (k := b) rfl
          have := HB1.out.size
          omega
        have hcel : ∀ k, k < n → ∃ b o, av = some ⟨b, o, none⟩ ∧ w2.cell? ⟨b, o + k, none⟩ = some (plcV (P.getD k 0)) := fun k hk => by
          obtain ⟨b, o, e, hc⟩ := har.2.resolve_left (by omega)
          have hkP : k < P.length := by rw [← HP.out.2]; exact hk
          exact ⟨b, o, e, (hc k hk).trans (by simp [List.getD, hkP])⟩
        have hPn := HP.out.2
        have HB2 := Lib.hid (And.intro hL2 (And.intro hB2 hI.out.2.size))
        clear har hB2 hI hL2
        rcases hcase with ⟨rfl, hQ⟩ | ⟨h1, h2, hQ⟩ | ⟨h1, h2, hQ⟩ | ⟨h1, h2, hQ⟩ | ⟨h1, h2, hQ⟩
        case' inl =>
          have HArr := Lib.hid (show Q.length = n ∧ ∀ k, k < n → ∃ b o, av = some ⟨b, o, none⟩ ∧ (w.heap.size ≤ b ∧ b < w2.heap.size) ∧ w2.cell? ⟨b, o + k, none⟩ = some (plcV (Q.getD k 0)) from
            ⟨by rw [hQ, hPn], fun k hk => by obtain ⟨b, o, e, hc⟩ := hcel k hk; exact ⟨b, o, e, hav b o e, by rw [hQ]; exact hc⟩⟩)
          obtain ⟨m, hm⟩ : ∃ m, m = n := ⟨_, rfl⟩
          rw [← hm] at HArr
          have Hm := Lib.hid hm
        case' inr.inl =>
          have d1 : decide (0 < c) = true := decide_eq_true h1
          have d2 : decide (c < (n : Int)) = true := decide_eq_true h2
          have HArr := Lib.hid (show Q.length = c.toNat ∧ ∀ k, k < c.toNat → ∃ b o, av = some ⟨b, o, none⟩ ∧ (w.heap.size ≤ b ∧ b < w2.heap.size) ∧ w2.cell? ⟨b, o + k, none⟩ = some (plcV (Q.getD k 0)) from
            ⟨by rw [hQ, List.length_take]; omega, fun k hk => by obtain ⟨b, o, e, hc⟩ := hcel k (by omega); exact ⟨b, o, e, hav b o e, by rw [hQ]; simpa [List.getD, List.getElem?_take, hk] using hc⟩⟩)
          obtain ⟨m, hm⟩ : ∃ m, m = c.toNat := ⟨_, rfl⟩
          obtain rfl : c = (m : Int) := by omega
          rw [← hm] at HArr
          have Hm := Lib.hid hm
        case' inr.inr.inl =>
          have d1 : decide (0 < c) = true := decide_eq_true h1
          have d2 : decide (c < (n : Int)) = false := decide_eq_false (by omega)
          have d3 : decide (c < 0) = false := decide_eq_false (by omega)
          have HArr := Lib.hid (show Q.length = n ∧ ∀ k, k < n → ∃ b o, av = some ⟨b, o, none⟩ ∧ (w.heap.size ≤ b ∧ b < w2.heap.size) ∧ w2.cell? ⟨b, o + k, none⟩ = some (plcV (Q.getD k 0)) from
            ⟨by rw [hQ, hPn], fun k hk => by obtain ⟨b, o, e, hc⟩ := hcel k hk; exact ⟨b, o, e, hav b o e, by rw [hQ]; exact hc⟩⟩)
          obtain ⟨m, hm⟩ : ∃ m, m = n := ⟨_, rfl⟩
          rw [← hm] at HArr
          have Hm := Lib.hid hm
        case' inr.inr.inr.inl =>
          have d1 : decide (0 < c) = false := decide_eq_false (by omega)
          have d2 : decide (c < 0) = true := decide_eq_true h1
          have d3 : decide (-(n : Int) < c) = true := decide_eq_true h2
          obtain ⟨b0, o0, rfl, _⟩ := hcel 0 (by omega)
          have hbo := hav b0 o0 rfl
          have HArr := Lib.hid (show Q.length = n - ((n : Int) + c).toNat ∧ ∀ k, k < n - ((n : Int) + c).toNat → ∃ b o, some (⟨b0, o0 + ((n : Int) + c).toNat, none⟩ : Addr) = some ⟨b, o, none⟩ ∧ (w.heap.size ≤ b ∧ b < w2.heap.size) ∧ w2.cell? ⟨b, o + k, none⟩ = some (plcV (Q.getD k 0)) from
            ⟨by rw [hQ, List.length_drop, hPn], fun k hk => by
              obtain ⟨b, o, e, hc⟩ := hcel (((n : Int) + c).toNat + k) (by omega)
              cases e
              exact ⟨b0, _, rfl, hbo, by rw [hQ, Nat.add_assoc]; simpa [List.getD, List.getElem?_drop] using hc⟩⟩)
          obtain ⟨m, hm⟩ : ∃ m, m = n - ((n : Int) + c).toNat := ⟨_, rfl⟩
          rw [← hm] at HArr
          have hnc : ¬ cv = ((n : Int) + c).toNat := by omega
          have Hm := Lib.hid hm
        case' inr.inr.inr.inr =>
          have d1 : decide (0 < c) = false := decide_eq_false (by omega)
          have d2 : decide (c < 0) = true := decide_eq_true h1
          have d3 : decide (-(n : Int) < c) = false := decide_eq_false (by omega)
          have HArr := Lib.hid (show Q.length = n ∧ ∀ k, k < n → ∃ b o, av = some ⟨b, o, none⟩ ∧ (w.heap.size ≤ b ∧ b < w2.heap.size) ∧ w2.cell? ⟨b, o + k, none⟩ = some (plcV (Q.getD k 0)) from
            ⟨by rw [hQ, hPn], fun k hk => by obtain ⟨b, o, e, hc⟩ := hcel k hk; exact ⟨b, o, e, hav b o e, by rw [hQ]; exact hc⟩⟩)
          obtain ⟨m, hm⟩ : ∃ m, m = n := ⟨_, rfl⟩
          rw [← hm] at HArr
          have Hm := Lib.hid hm
        all_goals
          clear hcel hav hQ hm hPn
          go_wp2_with fail
          try rw [← Hm.out]
          have hmn : m ≤ 1048576 := by have := Hm.out; omega
          go_loopw [11] (fun i wq => ∃ k : Nat, ∃ z : Int, k ≤ m ∧ i = .int .i64 z ∧ z = (k : Int) - 1 ∧ Hid ((∃ F3, ListF wq l F3 (cuts L (Q.drop k)) sm ∧ ∀ x, F3 x → F x ∨ w2.heap.size ≤ x) ∧ Chg F w2 wq)) (fun i _ => (intOf i + 1).toNat)
          case atStart => exact ⟨m, _, Nat.le_refl _, rfl, rfl, Lib.hid ⟨⟨F, by rw [List.drop_of_length_le (by rw [HArr.out.1]; omega)]; exact HB2.out.1, fun x hx => .inl hx⟩, Chg.refl _ _⟩⟩
          case round =>
            obtain ⟨k, z, hk, rfl, hz, hI⟩ := hrel
            cases k with
            | zero =>
              have dz : decide (0 ≤ z) = false := decide_eq_false (by omega)
              have HE := Lib.hid (show (∃ F', ListF wr l F' (cuts L Q) sm ∧ Fresh w F F') ∧ Chg F w wr by
                obtain ⟨⟨F3, h3, hF3⟩, hC⟩ := hI.out
                exact ⟨⟨F3, h3, fun x hx => (hF3 x hx).imp id fun h => Nat.le_trans HB2.out.2.1.size h⟩, (Chg.of_below F HB2.out.2.1).trans hC fun k hk _ => hk⟩)
              have HM := Lib.hid HArr.out.1
              clear hI
              go_wp2_with fail
              go_ret
              exact ⟨ret1 (by rw [HM.out]; rfl), HE.out⟩
            | succ k =>
              obtain rfl : z = (k : Int) := by omega
              obtain ⟨b, o, hbo, hbb, hcq⟩ := HArr.out.2 k (by omega)
              obtain ⟨⟨F3, h3, hF3⟩, hC⟩ := hI.out
              have hst := cuts_step (L := L) (s := s) (k := k) (by rw [← HQc.out, HArr.out.1]; omega)
              rw [← HQc.out] at hst
              have hbd : Below wr.heap.size wr wr.drew := belowN (Below.refl _ _) 1
              have hC2 : Chg F w2 wr.drew := hC.trans (Chg.drew F wr) fun k hk _ => hk
              have hcC : Chg F w wr.drew := (Chg.of_below F HB2.out.2.1).trans hC2 fun k hk _ => hk
              have hk3 : ∀ x, F3 x → w0.heap.size ≤ x := fun x hx => (hF3 x hx).elim (HK.out.2.2.2 x) fun h => by have := HB2.out.2.1.size; omega
              obtain ⟨pk, hpk⟩ : ∃ pk, pk = Q.getD k 0 := ⟨_, rfl⟩
              rw [← hpk] at hcq hst
              have hcw : wr.drew.cell? ⟨b, o + k, none⟩ = some (plcV pk) := by
                rw [← hcq]
                have := hC2.block b hbb.2 (fun h => by have := HFl.out b h; omega)
                simp only [World.cell?, this]
              obtain ⟨p3, hx3, HDl⟩ := HD.out wr.drew F3 _ pk (h3.below hbd) hcC hk3 hst.2
              have HDl := Lib.hid HDl
              obtain ⟨X1, f, hX1, hff, hFc⟩ := classOf (fun y => y.cell? ⟨l, 0, none⟩ = some _ ∧ y.cell? ⟨b, o + k, none⟩ = some (plcV pk)) (w := wr.drew) ⟨hx3, hcw⟩
              have hf1 := fun x => (hff x).1
              have hf2 := fun x => (hff x).2
              have H0 := Lib.hid (hFc wr.drew ⟨hx3, hcw⟩)
              have HNx := Lib.hid (show ∀ w3, (∃ F', ListF w3 l F' ((cuts L (Q.drop (k + 1))).take pk ++ (cuts L (Q.drop (k + 1))).drop (pk + 1)) sm ∧ Fresh wr.drew F3 F') → Chg F3 wr.drew w3 → (∃ F3, ListF w3 l F3 (cuts L (Q.drop k)) sm ∧ ∀ x, F3 x → F x ∨ w2.heap.size ≤ x) ∧ Chg F w2 w3 from fun w3 ⟨F4, h4, f4⟩ c4 =>
                ⟨⟨F4, by rw [hst.1]; exact h4, fun x hx => (f4 x hx).elim (hF3 x) fun h => .inr (Nat.le_trans hC2.size h)⟩, hC2.trans c4 fun x hx hlt => (hF3 x hx).resolve_right (by omega)⟩)
              clear hI h3 hF3 hC hst hbd hC2 hcC hk3 hcw hx3 hff hFc hcq hpk
              first | subst hbo | cases hbo
              clear hz
              go_wp2_with fail
              refine wp_region_text ⟨[10], [], 10⟩ (fun w' => ∃ x : X1, w' = f x) (by kernel_rfl) (by kernel_rfl) H0.out ?_
              refine wpC_seg false (H0.out) 10 0 _ _ (by rfl) (by rfl) ?_
              simp only [List.take_succ_cons, List.take_zero, List.drop_succ_cons, List.drop_zero, Bool.false_eq_true, if_false, Nat.zero_add, Nat.reduceAdd]
              repeat (go_big_quiet_step (fail))
              refine wpQuiet_nil ?_
              refine wpC_loud (by rfl) (by rfl) fun K hK => ?_
              go_wp2_with fail
              refine HDl.out.mono ?_
              rintro e w3 ⟨rfl, h4, c4⟩
              have HS := Lib.hid (HNx.out w3 h4 c4)
              clear h4 c4
              refine hK _ _ (fun h => absurd h (by decide)) ?_
              clear hK
              refine wpC_nil ?_
              clear hf1 hf2 hX1 H0
              go_wp2_with fail
              go_roundw
              case rel => exact ⟨k, _, by omega, rfl, rfl, HS⟩
              case measure => simp [intOf]
end Go.Proofs.YtlecnlnpgghmbaaGreatDoor

/- list: Set. -/
namespace Go.Proofs.YtlecnlnpgghmbaaGreatDoor
set_option linter.unusedVariables false
set_option linter.unusedSimpArgs false
open Go.RowKit
theorem setP_few {T : List ByteArray} (h : ∀ s ∈ T, s.size ≤ 65536) (hn : T.length ≤ 99) (a : Int) (s : ByteArray) : setP T a s = setQ T a s := by
  have h1 := few_size h (by omega)
  unfold setP setQ
  show (if qplB T.length a = false then (6, T) else _) = _
  by_cases h0 : qplB T.length a = false
  · rw [if_pos h0, if_pos h0]
  · rw [if_neg h0, if_neg h0]
    by_cases h2 : 65536 < s.size
    · rw [if_pos h2, if_pos h2]
    · have h3 := entL_length s (by omega)
      rw [if_neg h2, if_neg h2, if_neg (by omega)]
      rfl
theorem setQ_ok {L : List ByteArray} {a : Int} {s : ByteArray} (hb : qplB L.length a = true) (hs : s.size ≤ 65536) : ∃ i, i < L.length ∧ setQ L a s = (0, L.take i ++ [s] ++ L.drop (i + 1)) := by
  refine ⟨(qplN L.length a).toNat, ?_, ?_⟩
  · unfold qplB at hb
    simp at hb
    omega
  · unfold setQ
    rw [hb, if_neg (by simp), if_neg (by omega)]
theorem set_len {L : List ByteArray} {i : Nat} {s : ByteArray} (h : i < L.length) : (L.take i ++ [s] ++ L.drop (i + 1)).length = L.length := by simp; omega
theorem set_small {w0 w : World} (hl : Laid w0) (hb0 : Below w0.heap.size w0 w) {l p : Nat} {F Fr : Nat → Prop} {L : List ByteArray} (h : ListR w l F L true (smallV p) Fr) (hp : PackF w p Fr L) (h32 : L.length ≤ 32) (h64 : ∀ s ∈ L, s.size ≤ 64)
    (a : Int) (ha : -9223372036854775808 ≤ a ∧ a ≤ 9223372036854775807) (hb : qplB L.length a = true) (s : ByteArray) (hs : s.size ≤ 64) :
    Calls Tryz.prog 165 #[pv p, .int .i64 a, .string s] w fun e w' => e = .returned (.int .i64 0) ∧ (∃ F', ListF w' l F' (setQ L a s).2 true ∧ Fresh w F F') ∧ Chg F w w' := by
  have h1 := packSet hp (hl.below hb0) a ha s (by omega)
  rw [setP_few (fun x hx => by have := h64 x hx; omega) (by omega)] at h1
  obtain ⟨i, hi, e⟩ := setQ_ok (a := a) hb (show s.size ≤ 65536 by omega)
  rw [e] at h1 ⊢
  refine h1.mono ?_
  rintro e w' ⟨rfl, ⟨F', p', f'⟩, c'⟩
  have h2 := h.step c' (.inl ⟨rfl, p, rfl, p', by rw [set_len hi]; exact h32, fun x hx => ?_⟩) f' (by rw [set_len hi]; omega)
  · exact ⟨rfl, ⟨_, ⟨_, _, h2.1⟩, h2.2.1⟩, h2.2.2⟩
  · simp only [List.mem_append, List.mem_singleton] at hx
    rcases hx with (hx | rfl) | hx
    · exact h64 x (List.mem_of_mem_take hx)
    · exact hs
    · exact h64 x (List.mem_of_mem_drop hx)
theorem set_great {w0 w : World} (hl : Laid w0) (hb0 : Below w0.heap.size w0 w) (hN : w0.heap.size ≤ w.heap.size) {l q : Nat} {F Fr : Nat → Prop} {L : List ByteArray} (h : ListR w l F L false (greatV q) Fr) (hq : QuickF w q Fr L) (kF : ∀ k, F k → w0.heap.size ≤ k)
    (a : Int) (ha : -9223372036854775808 ≤ a ∧ a ≤ 9223372036854775807) (hb : qplB L.length a = true) (s : ByteArray) (hs : s.size ≤ 65536) :
    Calls Tryz.prog 171 #[pv q, .int .i64 a, .string s] w fun e w' => e = .returned (.int .i64 0) ∧ (∃ F', ListF w' l F' (setQ L a s).2 false ∧ Fresh w F F') ∧ Chg F w w' := by
  have hf := h.few
  have h1 := quickSet hl hb0 hN hq (fun k hk => kF k ((h.all k).2 (.inr hk))) (by omega) a ha s (by omega)
  obtain ⟨i, hi, e⟩ := setQ_ok (a := a) hb hs
  rw [e] at h1 ⊢
  refine h1.mono ?_
  rintro e w' ⟨rfl, ⟨F', p', f'⟩, c'⟩
  have h2 := h.step c' (.inr ⟨rfl, q, rfl, p'⟩) f' (by rw [set_len hi]; omega)
  exact ⟨rfl, ⟨_, ⟨_, _, h2.1⟩, h2.2.1⟩, h2.2.2⟩
/-- Is it small behind Set? -/
def setS (L : List ByteArray) (a : Int) (s : ByteArray) (sm : Bool) : Bool := if (setQ L a s).1 = 0 then sm && keeps (L.length : Int) s else sm
set_option maxHeartbeats 3200000 in
set_option maxRecDepth 100000 in
theorem setL {w0 w : World} (hl : Laid w0) (hb0 : Below w0.heap.size w0 w) (hN : w0.heap.size ≤ w.heap.size) {l : Nat} {F : Nat → Prop} {L : List ByteArray} {sm : Bool} (h : ListF w l F L sm) (kF : ∀ k, F k → w0.heap.size ≤ k)
    (a : Int) (ha : -9223372036854775808 ≤ a ∧ a ≤ 9223372036854775807) (s : ByteArray) (hs : s.size ≤ 9000000000000000000) :
    Calls Tryz.prog 26 #[pv l, .int .i64 a, .string s] w fun e w' => e = .returned (.int .i64 (setQ L a s).1) ∧ (∃ F', ListF w' l F' (setQ L a s).2 (setS L a s sm) ∧ Fresh w F F') ∧ Chg F w w' := by
  have hf := h.few
  have hn9 : L.length ≤ 1000000000 := by omega
  obtain ⟨v, Fr, h⟩ := h
  have HG := Lib.hid (goneL h)
  have c0 : w.cell? ⟨l, 0, none⟩ = some v := cell_in h.head (i := 0) rfl
  have HH := Lib.hid (And.intro h (And.intro hl (And.intro hb0 (And.intro hN kF))))
  have HSame := Lib.hid (show ∀ w', Below w.heap.size w w' → (∃ F', ListF w' l F' L sm ∧ Fresh w F F') ∧ Chg F w w' from fun w' hb => ⟨⟨F, ListF.below ⟨v, Fr, h⟩ hb, fun k hk => .inl hk⟩, Chg.of_below F hb⟩)
  rcases h.row with ⟨_, p, rfl, hp, _⟩ | ⟨_, q, rfl, hq⟩
  case' inl =>
    have HGt := Lib.hid (packGet hp (hl.below hb0) a ha)
    rw [getV_q] at HGt
    clear hp
  case' inr =>
    have HGt := Lib.hid (quickGet hq (hl.below hb0) (by omega) a ha)
    clear hq
  all_goals
    simp only [smallV, greatV] at c0
    clear h hl hb0 kF
    unfold qgetV at HGt
    by_cases hb : qplB L.length a = true
    · by_cases hs2 : s.size ≤ 65536
      · have g1 : decide (65536 < s.size) = false := decide_eq_false (by omega)
        have g2 : decide ((65536 : Int) < (s.size : Int)) = false := decide_eq_false (by omega)
        have e1 : (setQ L a s).1 = 0 := by obtain ⟨i, _, e⟩ := setQ_ok (a := a) hb hs2; rw [e]
        have e2 : setS L a s sm = (sm && keeps (L.length : Int) s) := by unfold setS; rw [if_pos e1]
        rw [e1, e2]
        rw [hb] at HGt
        obtain ⟨T, hT⟩ : ∃ T, T = (setQ L a s).2 := ⟨_, rfl⟩
        rw [← hT]
        have HT := Lib.hid (And.intro hT (And.intro hb hs2))
        clear hb e1 e2 hT hs2
        generalize (if true = true then L.getD (qplN L.length a).toNat ByteArray.empty else ByteArray.empty) = y at *
        go_enter Tryz.func26, Tryz.ntmps26
        go_wp2_with fail
        refine HG.out.mono ?_
        rintro e w' ⟨rfl, rfl⟩
        go_wp2_with fail
        refine HGt.out.mono ?_
        rintro e w2 ⟨rfl, b2⟩
        have h2 := HH.out.1.chg (Chg.of_below (fun _ => False) b2) fun _ _ => id
        have hb2 : Below w0.heap.size w0 w2 := HH.out.2.2.1.trans (b2.mono HH.out.2.2.2.1)
        have HL2 := Lib.hid (lenL h2)
        have HGr := Lib.hid (growL HH.out.2.1 hb2 (Nat.le_trans HH.out.2.2.2.1 b2.size) h2 (L.length : Int) (by omega) s (by omega))
        have HB2 := Lib.hid (And.intro b2 hb2)
        clear h2 hb2 b2
        go_wp2_with fail
        refine HL2.out.mono ?_
        rintro e w' ⟨rfl, rfl⟩
        go_wp2_with fail
        refine HGr.out.mono ?_
        rintro e w3 ⟨⟨vv, rfl⟩, ⟨F3, ⟨v3, Fr3, h3⟩, f3⟩, c3⟩
        have x3 : w3.cell? ⟨l, 0, none⟩ = some v3 := cell_in h3.head (i := 0) rfl
        have hb3 : Below w0.heap.size w0 w3 := belowChg HB2.out.2 c3 HB2.out.2.size fun k hk _ => HH.out.2.2.2.2 k hk
        have hF3 : ∀ k, F3 k → w0.heap.size ≤ k := fun k hk => (f3 k hk).elim (HH.out.2.2.2.2 k) fun h => Nat.le_trans HB2.out.2.size h
        have HC := Lib.hid (show Fresh w F F3 ∧ Chg F w w3 from ⟨fun k hk => (f3 k hk).imp id fun h => Nat.le_trans HB2.out.1.size h, (Chg.of_below F HB2.out.1).trans c3 fun k hk _ => hk⟩)
        rcases h3.row with ⟨hsm, p3, rfl, hp3, h32, h64⟩ | ⟨hsm, q3, rfl, hq3⟩
        case' inl =>
          have hk : s.size ≤ 64 := by
            have h := hsm
            unfold keeps at h
            simp only [Bool.and_eq_true, decide_eq_true_eq] at h
            exact h.2.2
          rw [hsm] at h3
          have HS := Lib.hid (set_small HH.out.2.1 hb3 h3 hp3 h32 h64 a ha HT.out.2.1 s hk)
          clear hp3 h32 h64 hk
        case' inr =>
          rw [hsm] at h3
          have HS := Lib.hid (set_great HH.out.2.1 hb3 hb3.size h3 hq3 hF3 a ha HT.out.2.1 s HT.out.2.2)
          clear hq3
        all_goals
          simp only [smallV, greatV] at x3
          rw [← HT.out.1, ← hsm] at HS
          clear h3 hb3 hF3 hsm f3 c3
          go_wp2_with fail
          refine HS.out.mono ?_
          rintro e w4 ⟨rfl, ⟨F4, h4, f4⟩, c4⟩
          have HE := Lib.hid (And.intro h4 (two_steps HC.out.1 HC.out.2 f4 c4))
          clear h4 f4 c4
          go_wp2_with fail
          go_ret
          exact ⟨rfl, ⟨_, HE.out.1, HE.out.2.1⟩, HE.out.2.2⟩
      · have g1 : decide (65536 < s.size) = true := decide_eq_true (by omega)
        have g2 : decide ((65536 : Int) < (s.size : Int)) = true := decide_eq_true (by omega)
        have e1 : setQ L a s = (3, L) := by unfold setQ; rw [hb, if_neg (by simp), if_pos (by omega)]
        have e2 : setS L a s sm = sm := by unfold setS; rw [e1, if_neg (by simp)]
        rw [e1, e2]
        rw [hb] at HGt
        clear hb e1 e2
        generalize (if true = true then L.getD (qplN L.length a).toNat ByteArray.empty else ByteArray.empty) = y at *
        go_enter Tryz.func26, Tryz.ntmps26
        go_wp2_with fail
        refine HG.out.mono ?_
        rintro e w' ⟨rfl, rfl⟩
        go_wp2_with fail
        refine HGt.out.mono ?_
        rintro e w2 ⟨rfl, b2⟩
        have HE := Lib.hid (HSame.out w2 b2)
        clear b2
        go_wp2_with fail
        go_ret
        exact ⟨rfl, HE.out⟩
    · have hb := Bool.eq_false_iff.2 hb
      have e1 : setQ L a s = (6, L) := by unfold setQ; rw [if_pos hb]
      have e2 : setS L a s sm = sm := by unfold setS; rw [e1, if_neg (by simp)]
      rw [e1, e2]
      rw [hb] at HGt
      clear hb e1 e2
      generalize (if false = true then L.getD (qplN L.length a).toNat ByteArray.empty else ByteArray.empty) = y at *
      go_enter Tryz.func26, Tryz.ntmps26
      go_wp2_with fail
      refine HG.out.mono ?_
      rintro e w' ⟨rfl, rfl⟩
      go_wp2_with fail
      refine HGt.out.mono ?_
      rintro e w2 ⟨rfl, b2⟩
      have HE := Lib.hid (HSame.out w2 b2)
      clear b2
      go_wp2_with fail
      go_ret
      exact ⟨rfl, HE.out⟩
end Go.Proofs.YtlecnlnpgghmbaaGreatDoor
