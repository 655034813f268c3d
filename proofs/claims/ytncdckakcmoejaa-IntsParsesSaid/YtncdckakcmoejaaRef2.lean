/- stillroomref06, part 2: Add, Remove. -/
import Derived.Test.YtncdckakcmoejaaRef1
namespace Go.Proofs.Ytncdckakcmoejaa
set_option linter.unusedVariables false
set_option linter.unusedSimpArgs false
open Go.RowKit
theorem setCell_head {w : World} {r : Nat} {cs : Array Value} {E : TypeId} (h : w.heap[r]? = some (.cells cs E (0, 0))) (i : Nat) (v : Value) : (w.setCell ⟨r, i, none⟩ v).heap[r]? = some (.cells (cs.setIfInBounds i v) E (0, 0)) := by
  rw [setCell_eq_setRow w r i _ _ _ _ h]; exact heap_setRow h _
theorem SliceIs.mono {w : World} {B B' : Nat} {e : TypeId} {v : Value} {n : Nat} {xs : List Value} (h : SliceIs w B e v n xs) (hB : B' ≤ B) : SliceIs w B' e v n xs := by
  refine ⟨h.1, h.2.imp id ?_⟩
  rintro ⟨g, cap, cur, rfl, h2, h3⟩
  exact ⟨g, cap, cur, rfl, Nat.le_trans hB h2, h3⟩
/-- What is still to come of an insertion. -/
def insRest (put : Bool) (R : List Int) (x : Int) : List Int := if put then R else ins R x
theorem info64 : ∃ i0, Try.prog.info? 2 = some i0 ∧ i0.zero = some (.int .i64 0) ∧ i0.size = 1 ∧ i0.bytes = 8 := info_parts info_i64
theorem append64 {w : World} {B n : Nat} {v : Value} {xs : List Int} (h : SliceIs w B 2 v n (xs.map i64v)) (hB : B ≤ w.heap.size) (x : Int) (hn : n + 1 ≤ 100000001) :
    ∃ v' w', (Builtin.append_ #[29, 29] 29 #[v, .slice (some ⟨w.heap.size, 0, none⟩) 1 1]).run Try.prog (w.alloc (.cells #[.int .i64 x] 2)) = .ok v' w' ∧ SliceIs w' B 2 v' (n + 1) ((xs ++ [x]).map i64v) ∧ Below B w w' := by
  obtain ⟨i0, g1, g2, g3, g4⟩ := info64
  have := run_append_one (P := Try.prog) (t := 29) (ty := 29) Try.underlying29 g1 g2 g3 g4 rfl h hB (.int .i64 x) rfl (by unfold maxLen; omega) (by omega)
  rw [List.map_append]
  exact this
set_option maxHeartbeats 3200000 in
set_option maxRecDepth 100000 in
theorem refAdd {w : World} {r : Nat} {G : Nat → Prop} {L : List Int} {W : Nat} (h : RefF w r G L W) (x : Int) (hm : L.length ≤ 100000000) (hW : W ≤ 8) :
    Calls Try.prog 49 #[.pointer (some ⟨r, 0, none⟩), .int .i64 x] w fun e w' => e = .returned (.bool (decide (x ∉ L))) ∧ ∃ G', RefF w' r G' (if x ∈ L then L else ins L x) (if x ∈ L then W else max W (wantsN x)) ∧ Fresh w G G' ∧ Chg G w w' := by
  have HH := Lib.hid (refHas h x hm)
  have HWa := Lib.hid (fun w => refWants_any x w)
  have HO := Lib.hid h
  obtain ⟨v, h1, h2, h3⟩ := h
  by_cases hx : x ∈ L
  · rw [decide_eq_true hx] at HH
    rw [if_pos hx, if_pos hx]
    have HV := Lib.hid (show decide (x ∉ L) = false by simp [hx])
    clear h1 h2 h3 hx
    go_enter Try.func49, Try.ntmps49
    go_wp2_with fail
    refine HH.out.mono ?_
    rintro e w' ⟨rfl, rfl⟩
    go_wp2_with fail
    go_ret
    exact ⟨ret1 (by rw [HV.out]; rfl), G, HO.out, fun k hk => .inl hk, Chg.refl _ _⟩
  · rw [decide_eq_false hx] at HH
    rw [if_neg hx, if_neg hx]
    have HV := Lib.hid (show decide (x ∉ L) = true by simp [hx])
    obtain ⟨a, cap, hv, h4⟩ := h2.arg
    subst hv
    have c0 := cell_in h1 (i := 0) rfl
    have hr := heap_lt h1
    have hlc := h4.1
    have HA := Lib.hid h4
    have H1 := Lib.hid h1
    have HX := Lib.hid hx
    have HG := Lib.hid h3
    clear h1 h2 h3 h4 hx
    go_enter Try.func49, Try.ntmps49
    go_wp2_with fail
    refine HH.out.mono ?_
    rintro e w' ⟨rfl, rfl⟩
    go_wp2_with fail
    go_loopw [5, 6, 7] (fun l p i wr => ∃ (k : Nat) (put : Bool) (xs : List Int), k ≤ L.length ∧ i = .int .i64 k ∧ p = .bool put ∧ Hid (xs ++ insRest put (L.drop k) x = ins L x ∧ xs.length ≤ k + put.toNat) ∧ Hid (SliceIs wr w.heap.size 2 l xs.length (xs.map i64v) ∧ Below w.heap.size w wr)) (fun _ _ i _ => L.length - (intOf i).toNat)
    case atStart => exact ⟨0, false, [], Nat.zero_le _, rfl, rfl, Lib.hid ⟨rfl, by simp⟩, Lib.hid ⟨SliceIs.nil _ _ _, Below.refl _ _⟩⟩
    case round =>
      obtain ⟨k, put, xs, hk, rfl, rfl, hJ, hI⟩ := hrel
      have c0' : wr.cell? ⟨r, 0, none⟩ = some (.slice a L.length cap) := by rw [hI.out.2.cell hr]; exact c0
      by_cases hlt : k < L.length
      · obtain ⟨b, o, ha, hc⟩ := HA.out.2.resolve_left (by omega)
        subst ha
        have hcell : w.cell? ⟨b, o + k, none⟩ = some (.int .i64 (L.getD k 0)) := by
          rw [hc k hlt]
          simp [List.getD, hlt, i64v]
        have hbw := World.block_lt_of_cell? w _ hcell
        have hcell' : wr.cell? ⟨b, o + k, none⟩ = some (.int .i64 (L.getD k 0)) := by rw [hI.out.2.cell hbw]; exact hcell
        have hy : L.getD k 0 ≠ x := fun h => HX.out (by rw [← h]; simp [List.getD, hlt])
        have hdr : L.drop k = L.getD k 0 :: L.drop (k + 1) := by rw [List.drop_eq_getElem_cons hlt]; simp [List.getD, hlt]
        have hJ1 := hJ.out.1
        rw [hdr] at hJ1
        have HJ1 := Lib.hid hJ1
        have HY := Lib.hid hy
        have HL2 := Lib.hid hJ.out.2
        clear hJ1 hy hdr hJ hc HA
        generalize L.getD k 0 = y at *
        by_cases hins : put = false ∧ x < y
        · obtain ⟨rfl, hxy⟩ := hins
          have e1 := decide_eq_true hxy
          have hl0 : xs.length ≤ k := by have := HL2.out; simpa using this
          obtain ⟨v1, w1, r1, s1, b1⟩ := append64 hI.out.1 hI.out.2.size x (by omega)
          have hcell1 : w1.cell? ⟨b, o + k, none⟩ = some (.int .i64 y) := by rw [b1.cell hbw]; exact hcell'
          have c01 : w1.cell? ⟨r, 0, none⟩ = some (.slice (some ⟨b, o, none⟩) L.length cap) := by rw [b1.cell hr]; exact c0'
          rw [show xs.length + 1 = (xs ++ [x]).length by simp] at s1
          obtain ⟨v2, w2, r2, s2, b2⟩ := append64 s1 (Nat.le_trans hI.out.2.size b1.size) y (by simp; omega)
          rw [show (xs ++ [x]).length + 1 = (xs ++ [x] ++ [y]).length by simp] at s2
          have HNw := Lib.hid (And.intro s2 (hI.out.2.trans (b1.trans b2)))
          have HJ2 := Lib.hid (show xs ++ [x] ++ [y] ++ insRest true (L.drop (k + 1)) x = ins L x ∧ (xs ++ [x] ++ [y]).length ≤ k + 1 + true.toNat from
            ⟨by rw [← HJ1.out]; simp [insRest, ins, hxy], by simp; omega⟩)
          have HR1 := Lib.hid r1
          have HR2 := Lib.hid r2
          clear s1 s2 b1 b2 r1 r2 hI HL2 HJ1 hxy
          go_wp2_with (at_builtin; first | refine wpList_append_run rfl rfl HR1.out ?_ | refine wpList_append_run rfl rfl HR2.out ?_)
          go_roundw
          case rel => exact ⟨k + 1, true, _, by omega, by go_num, rfl, HJ2, HNw⟩
          case measure => simp [intOf]; omega
        · have hcase : (put = true) ∨ (put = false ∧ decide (x < y) = false) := by
            cases put
            · exact .inr ⟨rfl, decide_eq_false fun h => hins ⟨rfl, h⟩⟩
            · exact .inl rfl
          have hl0 : xs.length ≤ k + put.toNat := HL2.out
          have hpn : put.toNat ≤ 1 := Bool.toNat_le put
          obtain ⟨v2, w2, r2, s2, b2⟩ := append64 hI.out.1 hI.out.2.size y (by omega)
          rw [show xs.length + 1 = (xs ++ [y]).length by simp] at s2
          have HNw := Lib.hid (And.intro s2 (hI.out.2.trans b2))
          have HJ2 := Lib.hid (show xs ++ [y] ++ insRest put (L.drop (k + 1)) x = ins L x ∧ (xs ++ [y]).length ≤ k + 1 + put.toNat from
            ⟨by
              rw [← HJ1.out]
              rcases hcase with rfl | ⟨rfl, h⟩
              · simp [insRest]
              · have h1 := of_decide_eq_false h
                have h2 : ¬ x = y := fun h => HY.out h.symm
                simp [insRest, ins, h1, h2], by simp; omega⟩)
          have HR2 := Lib.hid r2
          clear s2 b2 r2 hI HL2 HJ1 hins HY hl0 hpn
          rcases hcase with rfl | ⟨rfl, e1⟩
          all_goals
            go_wp2_with (at_builtin; refine wpList_append_run rfl rfl HR2.out ?_)
            go_roundw
            case rel => exact ⟨k + 1, _, _, by omega, by go_num, rfl, HJ2, HNw⟩
            case measure => simp [intOf]; omega
      · have : k = L.length := by omega
        subst this
        have hJ1 := hJ.out.1
        rw [List.drop_length] at hJ1
        have hJ2 := hJ.out.2
        have hlen : (ins L x).length ≤ L.length + 1 := by rw [← hJ1]; cases put <;> simp [insRest, ins] at * <;> omega
        have hfin : ∀ wf, Below w.heap.size w wf → wf.heap[r]? = some (.cells #[.slice a L.length cap, .int .i64 W] 81 (0, 0)) := fun wf h => by rw [h.block r hr]; exact H1.out
        cases put
        case' false =>
          have hl0 : xs.length ≤ L.length := by simpa using hJ2
          obtain ⟨v2, wf, r2, s2, b2⟩ := append64 hI.out.1 hI.out.2.size x (by omega)
          have b3 := hI.out.2.trans b2
          obtain ⟨a2, cap2, hv2, h5⟩ := s2.arg
          subst hv2
          rw [show xs ++ [x] = ins L x from hJ1] at s2
          have HR2 := Lib.hid r2
          have hh := hfin _ b3
          have c02 := cell_in hh (i := 0) rfl
          have c12 := cell_in hh (i := 1) rfl
          have f02 := frozen_in hh 0
          have f12 := frozen_in hh 1
          obtain ⟨n2, hn2⟩ : ∃ n2, n2 = xs.length + 1 := ⟨_, rfl⟩
          rw [← hn2] at s2 h5 HR2
        case' true =>
          obtain ⟨wf, rfl⟩ : ∃ wf, wf = wr := ⟨_, rfl⟩
          have s2 := hI.out.1
          have b3 := hI.out.2
          obtain ⟨a2, cap2, hv2, h5⟩ := s2.arg
          subst hv2
          obtain ⟨n2, hn2⟩ : ∃ n2, n2 = xs.length := ⟨_, rfl⟩
          rw [← hn2] at s2 h5 ⊢
          rw [show xs = ins L x by rw [← hJ1]; simp [insRest]] at s2
          have hh := hfin _ b3
          have c02 := cell_in hh (i := 0) rfl
          have c12 := cell_in hh (i := 1) rfl
          have f02 := frozen_in hh 0
          have f12 := frozen_in hh 1
          have HR2 : Hid True := Lib.hid trivial
        all_goals
          have HN2 := Lib.hid (And.intro s2 (And.intro b3 hh))
          have e3 : wf.setCell ⟨r, 0, none⟩ (.slice a2 n2 cap2) = wf.setRow r #[.slice a2 n2 cap2, .int .i64 W] := by rw [setCell_eq_setRow wf r 0 _ _ _ _ hh]; rfl
          obtain ⟨w3, hw3⟩ : ∃ w3, w3 = wf.setCell ⟨r, 0, none⟩ (.slice a2 n2 cap2) := ⟨_, rfl⟩
          have HW3 := Lib.hid hw3
          have hp3 : w3.heap[r]? = some (.cells #[.slice a2 n2 cap2, .int .i64 W] 81 (0, 0)) := by rw [hw3, e3]; exact heap_setRow hh _
          have c13 := cell_in hp3 (i := 1) rfl
          have f13 := frozen_in hp3 1
          have hc3 : Chg (fun k => k = r) wf w3 := by rw [hw3]; exact Chg.setCell _ _ _ _ rfl
          have HC3 := Lib.hid (And.intro hp3 hc3)
          clear hw3 e3 hp3 hc3
          have hnl : n2 = (ins L x).length := by have := s2.1; simpa using this.symm
          have HFin := Lib.hid (And.intro hnl hlen)
          clear s2 b3 h5 hh hnl hlen hfin hn2 hI hJ hJ1 HA
          go_wp2_with (at_builtin; refine wpList_append_run rfl rfl HR2.out ?_)
          rw [← HW3.out]
          obtain ⟨X1, f, hX1, hf, hF⟩ := classOf (fun x => x.cell? ⟨r, 1, none⟩ = some (.int .i64 W)) c13
          have HF := Lib.hid (fun k => hF (w3.drewN k) c13)
          clear hF
          refine wp_region_text ⟨[6, 10], [], 10⟩ (fun w' => ∃ x : X1, w' = f x) (by kernel_rfl) (by kernel_rfl) (HF.out 1) ?_
          refine wpC_seg false (HF.out 1) 6 0 _ _ (by rfl) (by rfl) ?_
          simp only [List.take_succ_cons, List.take_zero, List.drop_succ_cons, List.drop_zero, Bool.false_eq_true, if_false, Nat.zero_add, Nat.reduceAdd]
          repeat (go_big_quiet_step (fail))
          refine wpQuiet_nil ?_
          refine wpC_loud (by rfl) (by rfl) fun K hK => ?_
          go_wp2_with fail
          refine (HWa.out _).mono ?_
          rintro e w' ⟨rfl, rfl⟩
          refine hK _ _ (fun _ => HF.out 1) ?_
          clear hK
          refine wpC_seg false (HF.out 1) 3 7 _ _ (by rfl) (by rfl) ?_
          simp only [List.take_succ_cons, List.take_zero, List.drop_succ_cons, List.drop_zero, Bool.false_eq_true, if_false, Nat.zero_add, Nat.reduceAdd]
          repeat (go_big_quiet_step (fail))
          refine wpQuiet_nil ?_
          refine wpC_loud (by rfl) (by rfl) fun K hK => ?_
          go_wp2_with fail
          all_goals
            refine hK _ _ (fun h => absurd h (by decide)) ?_
            clear hK
            refine wpC_nil ?_
            go_wp2_with fail
            go_ret
            refine ⟨ret1 (by rw [HV.out]; rfl), fun k => k = r ∨ vblock (.slice a2 n2 cap2) = some k, ⟨.slice a2 n2 cap2, ?_, ?_, fun k => Iff.rfl⟩, ?_, ?_⟩
            · have hmx : ((max W (wantsN x) : Nat) : Int) = W ∨ ((max W (wantsN x) : Nat) : Int) = wantsN x := by omega
              first
                | (rw [show ((max W (wantsN x) : Nat) : Int) = W by omega]; exact setCell_head HC3.out.1 1 _)
                | (rw [show ((max W (wantsN x) : Nat) : Int) = wantsN x by omega]; exact setCell_head HC3.out.1 1 _)
            · rw [← HFin.out.1]
              refine (HN2.out.1.mono (show r + 1 ≤ w.heap.size by omega)).chg (HC3.out.2.trans ((Chg.setCell (fun k => k = r) w3 ⟨r, 1, none⟩ _ rfl).trans (Chg.drew _ _) fun _ h _ => h) fun _ h _ => h) fun k hk he => ?_
              have := (HN2.out.1.block_lt hk).1
              omega
            · rintro k (rfl | hk)
              · exact .inl ((HG.out k).2 (.inl rfl))
              · exact .inr (HN2.out.1.block_lt hk).1
            · exact (Chg.of_below G HN2.out.2.1).trans (HC3.out.2.trans ((Chg.setCell (fun k => k = r) w3 ⟨r, 1, none⟩ _ rfl).trans (Chg.drew _ _) fun _ h _ => h) fun _ h _ => h) fun k hk _ => by subst hk; exact (HG.out k).2 (.inl rfl)
end Go.Proofs.Ytncdckakcmoejaa
