/- radix: add. -/
import Derived.Test.YtbjpfnafhhbmaaaRad18
namespace Go.Proofs.Ytbjpfnafhhbmaaa.Rad
open Go.Proofs.Ytbjpfnafhhbmaaa
set_option linter.unusedVariables false
set_option linter.unusedSimpArgs false
open Go.RowKit RT
theorem info_node : (Try.prog.info? 38).map (fun i => (i.zero, i.size, i.bytes)) = some (some (.pointer none), 1, 8) := by kernel_rfl
/-- A row into which one more has been laid. -/
theorem row_ins {cur : Array Value} {L : List Value} {z u : Value} {n r : Nat} (h : cur.toList.take (n + 1) = L ++ [z]) (hL : L.length = n) (hr : r ≤ n) (hc : n + 1 ≤ cur.size) :
    ((spliced cur (r + 1) (L.drop r)).setIfInBounds r u).toList.take (n + 1) = L.take r ++ u :: L.drop r := by
  obtain ⟨R, hR⟩ : ∃ R, cur.toList = L ++ ([z] ++ R) := ⟨cur.toList.drop (n + 1), by rw [← List.append_assoc, ← h, List.take_append_drop]⟩
  have hs : (spliced cur (r + 1) (L.drop r)).toList = L.take r ++ ((L ++ [z]).getD r z :: (L.drop r ++ R)) := by
    unfold spliced
    simp only [hR]
    apply List.ext_getElem?
    intro j
    have hl : (L.take r).length = r := by simp; omega
    rcases Nat.lt_or_ge j r with h1 | h1
    · rw [List.append_assoc, List.getElem?_append_left (by simp; omega), List.getElem?_take_of_lt (by omega), List.getElem?_append_left (by omega), List.getElem?_append_left (by omega), List.getElem?_take_of_lt h1]
    · obtain ⟨d, rfl⟩ : ∃ d, j = r + d := ⟨j - r, by omega⟩
      rw [List.getElem?_append_right (by omega : (L.take r).length ≤ r + d), hl, Nat.add_sub_cancel_left]
      cases d with
      | zero =>
        rw [List.append_assoc, List.getElem?_append_left (by simp; omega), List.getElem?_take_of_lt (by omega)]
        simp only [Nat.add_zero, List.getElem?_cons_zero]
        rw [← List.append_assoc, List.getElem?_append_left (by simp; omega)]
        rw [List.getElem?_eq_getElem (show r < (L ++ [z]).length by simp; omega)]
        simp [List.getD, List.getElem?_eq_getElem (show r < (L ++ [z]).length by simp; omega)]
      | succ d =>
        have ht : ((L ++ ([z] ++ R)).take (r + 1)).length = r + 1 := by simp; omega
        simp only [List.getElem?_cons_succ]
        rw [List.append_assoc, List.getElem?_append_right (by omega), ht, show r + (d + 1) - (r + 1) = d by omega]
        congr 2
        rw [List.length_drop, hL, show r + 1 + (n - r) = n + 1 by omega, ← List.append_assoc, List.drop_left' (by simp; omega)]
  rw [Array.toList_setIfInBounds, hs, List.set_append_right _ _ (by simp; omega)]
  simp only [List.length_take, hL, Nat.min_eq_left hr, Nat.sub_self, List.set_cons_zero]
  rw [List.take_append, List.take_of_length_le (by simp; omega)]
  simp only [List.length_take, hL, Nat.min_eq_left hr, show n + 1 - r = (n - r) + 1 by omega, List.take_succ_cons]
  rw [List.take_left' (by simp; omega)]
/-- A node's parts. -/
def Parts (w : World) (ro : Nat → Prop) (b : List UInt8) (v : VT) (k : List RT) (x : Nat) (a : Option Addr) (ca : Nat) (kv : Value) (xs rows : List Nat) : Prop :=
  w.heap[x]? = some (.cells #[.slice a b.length ca, kv, vC v] 45 (0, 0)) ∧ BytesRo w ro a b ca ∧ SliceIs w 0 38 kv k.length (xs.map ptrV) ∧ NodesAt w ro k xs rows
theorem Parts.node {w : World} {ro : Nat → Prop} {b : List UInt8} {v : VT} {k : List RT} {x : Nat} {a : Option Addr} {ca : Nat} {kv : Value} {xs rows : List Nat} (h : Parts w ro b v k x a ca kv xs rows) : NodeAt w ro (.mk b v k) x (x :: ((vblock kv).toList ++ rows)) := by
  rw [NodeAt]
  exact ⟨a, ca, kv, xs, rows, h.1, h.2.1, h.2.2.1, h.2.2.2, rfl⟩
theorem parts_of {w : World} {ro : Nat → Prop} {b : List UInt8} {v : VT} {k : List RT} {x : Nat} {own : List Nat} (h : NodeAt w ro (.mk b v k) x own) : ∃ a ca kv xs rows, Parts w ro b v k x a ca kv xs rows ∧ own = x :: ((vblock kv).toList ++ rows) := by
  rw [NodeAt] at h
  obtain ⟨a, ca, kv, xs, rows, h1, h2, h3, h4, h5⟩ := h
  exact ⟨a, ca, kv, xs, rows, ⟨h1, h2, h3, h4⟩, h5⟩
/-- What add leaves. -/
def Added (w : World) (b : List UInt8) (v : VT) (k : List RT) (x : Nat) (a : Option Addr) (ca : Nat) (kv : Value) (xs : List Nat) (c : UInt8) (y : Nat) (e : Ending) (w' : World) : Prop :=
  e = .returned (.tuple #[]) ∧ ∃ r kv', PlaceB (k.map RT.first) c r ∧ w'.heap[x]? = some (.cells #[.slice a b.length ca, kv', vC v] 45 (0, 0)) ∧
    SliceIs w' 0 38 kv' (k.length + 1) ((xs.take r ++ y :: xs.drop r).map ptrV) ∧ (vblock kv' = vblock kv ∨ ∃ g, vblock kv' = some g ∧ w.heap.size ≤ g) ∧ Chg (fun j => j = x ∨ vblock kv = some j) w w'
set_option maxHeartbeats 1600000 in
set_option maxRecDepth 100000 in
theorem radAdd {w : World} {ro : Nat → Prop} {b : List UInt8} {v : VT} {k : List RT} {x : Nat} {a : Option Addr} {ca : Nat} {kv : Value} {xs rows : List Nat} (h : Parts w ro b v k x a ca kv xs rows) (hx : vblock kv ≠ some x)
    (hb : ∀ u ∈ k, u.begin ≠ []) (hr : (k.map RT.first).Pairwise (· < ·)) (hn : k.length ≤ 1000) {y q p m cm : Nat} {c : UInt8} (hy : w.cell? ⟨y, 0, none⟩ = some (.slice (some ⟨q, p, none⟩) m cm)) (hm : 0 < m) (hc : w.cell? ⟨q, p, none⟩ = some (.int .u8 c.toNat)) :
    Calls Try.prog 19 #[ptrV x, ptrV y] w (Added w b v k x a ca kv xs c y) := by
  have HS := Lib.hid (radSeek h.node hb hr hn c)
  obtain ⟨h1, _, h3, h4⟩ := h
  have hl := h4.length
  have H1 := Lib.hid h1
  have H3 := Lib.hid h3
  have hxs := heap_lt h1
  have HX := Lib.hid hx
  clear h1 h3 h4 hb hr hx
  unfold ptrV
  go_enter Try.func19, Try.ntmps19
  go_wp2_with fail
  refine HS.out.mono ?_
  rintro e w1 ⟨r, hP, rfl, hbl⟩
  have hrl : r ≤ k.length := by have := hP.1; simpa using this
  have h1 : w1.heap[x]? = some (.cells #[.slice a b.length ca, kv, vC v] 45 (0, 0)) := (hbl.block x hxs).trans H1.out
  have hkv : ∀ g, vblock kv = some g → g < w.heap.size := fun g hg => (H3.out.block_lt hg).2
  obtain ⟨i0, g1, g2, g3, g4⟩ := info_parts info_node
  obtain ⟨kv', w2, hr2, hs2, hc2, hv2⟩ := run_append_own1 (P := Try.prog) (t := 43) (ty := 43) Try.underlying43 g1 g2 g3 g4 rfl (H3.out.below hbl) (.pointer none) rfl (by unfold maxLen; omega) (by omega)
  obtain ⟨g, cap, cur, rfl, _, hrow, hcs, hnc, hcm, htk⟩ := hs2.2.resolve_left (by simp)
  have hgx : g ≠ x := by
    rcases hv2 with hv2 | ⟨g', hv2, hge⟩
    · intro e; exact HX.out (hv2.symm.trans (by rw [← e]; rfl))
    · obtain rfl : g = g' := by simpa [vblock] using hv2
      have := hbl.size; omega
  have h2 : w2.heap[x]? = some (.cells #[.slice a b.length ca, kv, vC v] 45 (0, 0)) := hc2.keep h1 HX.out
  have e3 : w2.setCell ⟨x, 1, none⟩ (.slice (some ⟨g, 0, none⟩) (k.length + 1) cap) = w2.setRow x #[.slice a b.length ca, .slice (some ⟨g, 0, none⟩) (k.length + 1) cap, vC v] := by rw [setCell_eq_setRow w2 x 1 _ _ _ _ h2]; rfl
  obtain ⟨w3, hw3⟩ : ∃ w3, w3 = w2.setCell ⟨x, 1, none⟩ (.slice (some ⟨g, 0, none⟩) (k.length + 1) cap) := ⟨_, rfl⟩
  have h3 : w3.heap[x]? = some (.cells #[.slice a b.length ca, .slice (some ⟨g, 0, none⟩) (k.length + 1) cap, vC v] 45 (0, 0)) := by rw [hw3, e3]; exact heap_setRow h2 _
  have r3 : RowAt w3 g 38 cur := by rw [hw3, e3]; exact hrow.other _ hgx
  obtain ⟨cur4, hcur4⟩ : ∃ cur4, cur4 = spliced cur (r + 1) (((xs.map ptrV).drop r)) := ⟨_, rfl⟩
  have hld : ((xs.map ptrV).drop r).length = k.length - r := by simp [hl]
  have z4 : cur4.size = cur.size := by rw [hcur4]; exact spliced_size _ _ _ (by omega)
  have hcells : ∀ d, ∀ j u, ((xs.map ptrV).drop r)[j]? = some u → (w3.drewN d).cell? ((⟨g, r, none⟩ : Addr).add j) = some u := fun d j u hu => by
    rw [Addr.add_lit]
    refine (r3.drewN d).cell ?_
    rw [List.getElem?_drop] at hu
    have hjl : r + j < k.length := by have := (List.getElem?_eq_some_iff.1 hu).1; simp [hl] at this; omega
    rw [← Array.getElem?_toList]
    have e := congrArg (fun l => l[r + j]?) htk
    simp only [List.getElem?_take_of_lt (show r + j < k.length + 1 by omega)] at e
    rw [e, List.getElem?_append_left (by simp [hl]; omega)]
    exact hu
  have hcpy : ∀ d, (Builtin.copy_ #[43, 43] 3 #[.slice (if cap = r + 1 then some ⟨g, 0, none⟩ else some ⟨g, r + 1, none⟩) (k.length - r) (cap - (r + 1)), .slice (some ⟨g, r, none⟩) (k.length + 1 - r) (cap - r)]).run Try.prog (w3.drewN d) =
      .ok (.int .i64 ((k.length - r : Nat) : Int)) ((w3.drewN d).setRow g cur4) := fun d => by
    rw [hcur4]
    split
    · have h0 : (xs.map ptrV).drop r = [] := List.eq_nil_of_length_eq_zero (by omega)
      have := run_copy_row (w3.drewN d) 43 43 3 _ i0 Try.underlying43 g1 g3 g 0 (k.length - r) (cap - (r + 1)) cur (r3.drewN d) ⟨g, r, none⟩ (k.length + 1 - r) (cap - r) (k.length - r) (by omega) (by omega) [] (by simp; omega) (by simp) (by simp)
      rw [h0, this]; simp [spliced]
    · exact run_copy_row (w3.drewN d) _ _ _ _ i0 Try.underlying43 g1 g3 g (r + 1) _ _ cur (r3.drewN d) ⟨g, r, none⟩ _ _ (k.length - r) (by omega) (by omega) _ hld (hcells d) (fun u hu => by
        obtain ⟨z, _, rfl⟩ := List.mem_map.1 (List.mem_of_mem_drop hu)
        rfl)
  have d4 : ((w3.drewN 1).setRow g cur4).heap[x]? = some (.cells #[.slice a b.length ca, .slice (some ⟨g, 0, none⟩) (k.length + 1) cap, vC v] 45 (0, 0)) := (setRow_other (w3.drewN 1) g x cur4 (Ne.symm hgx)).trans h3
  have r4 : RowAt ((w3.drewN 1).setRow g cur4) g 38 cur4 := (r3.drewN 1).setRow z4
  obtain ⟨w5, hw5⟩ : ∃ w5, w5 = ((w3.drewN 1).setRow g cur4).setCell ⟨g, r, none⟩ (ptrV y) := ⟨_, rfl⟩
  have e5 : w5 = (w3.drewN 1).setRow g (cur4.setIfInBounds r (ptrV y)) := by rw [hw5]; exact (r3.drewN 1).setSet cur4 r _
  have hc5 : Chg (fun j => j = x ∨ vblock kv = some j) w w5 := by
    rw [e5]
    refine ((Chg.of_below (fun j => j = x ∨ vblock kv = some j) hbl).trans hc2 fun j hj _ => .inr hj).trans (S' := fun j => j = x ∨ j = g) ?_ fun j hj hlt => ?_
    · refine (show Chg (fun j => j = x ∨ j = g) w2 w3 from by rw [hw3]; exact Chg.setCell _ _ _ _ (.inl rfl)).trans ((Chg.drewN (fun j => j = x ∨ j = g) w3 1).trans (Chg.setRow (fun j => j = x ∨ j = g) _ _ _ (.inr rfl)) fun _ h _ => h) fun _ h _ => h
    · rcases hj with rfl | rfl
      · exact .inl rfl
      · right
        rcases hv2 with hv2 | ⟨g', hv2, hge⟩
        · exact hv2.symm
        · obtain rfl : j = g' := by simpa [vblock] using hv2
          have := hbl.size; omega
  have hfin : Added w b v k x a ca kv xs c y (.returned (.tuple #[])) w5 := by
    refine ⟨rfl, r, _, hP, ?_, ?_, hv2.imp id fun ⟨g', e1, e2⟩ => ⟨g', e1, Nat.le_trans hbl.size e2⟩, hc5⟩
    · rw [e5]; exact (setRow_other (w3.drewN 1) g x _ (Ne.symm hgx)).trans h3
    · refine ⟨by simp [hl]; omega, .inr ⟨g, cap, cur4.setIfInBounds r (ptrV y), rfl, Nat.zero_le _, ?_, by simp [z4, hcs], hnc, hcm, ?_⟩⟩
      · rw [e5]; exact (r3.drewN 1).setRow (by simp [z4])
      · rw [hcur4]
        have := row_ins (u := ptrV y) htk (by simp [hl]) hrl (by omega)
        rw [this]
        simp
  have HFin := Lib.hid hfin
  have HW3 := Lib.hid hw3
  have HW5 := Lib.hid hw5
  have HCp := Lib.hid hcpy
  have HR2 := Lib.hid hr2
  have c1 := cell_in h1 (i := 1) rfl
  have c2 := cell_in h2 (i := 1) rfl
  have f2 := frozen_in h2 1
  have c3 := cell_in h3 (i := 1) rfl
  have c4 := cell_in d4 (i := 1) rfl
  have c4r := r4.cell (i := r) (v := cur4[r]'(by omega)) (by simp)
  have f4r := r4.free (i := r) (by omega)
  have hq : ¬ cap = r := by omega
  have hqn : r + 1 ≤ k.length + 1 := by omega
  unfold maxLen at hcm
  generalize cur4[r]'_ = old at *
  clear hfin hw3 hw5 hcpy hr2 hc5 e5 r4 d4 hcells hld z4 hcur4 e3 h3 r3 h2 h1 hkv hs2 hc2 hv2 htk hrow hcs HS g1 g2 g3 g4 hP hbl
  go_wp2_with (at_builtin; refine wpList_append_run rfl rfl HR2.out ?_)
  rw [← HW3.out]
  obtain ⟨X1, f, hX1, hf, hF⟩ := classOf (fun w => w.cell? ⟨x, 1, none⟩ = some (.slice (some ⟨g, 0, none⟩) (k.length + 1) cap)) c3
  have HF1 := Lib.hid (hF (w3.drewN 1) c3)
  clear hF
  refine wp_region_text ⟨[13], [], 13⟩ (fun w' => ∃ x : X1, w' = f x) (by kernel_rfl) (by kernel_rfl) HF1.out ?_
  refine wpC_seg false (HF1.out) 13 0 _ _ (by rfl) (by rfl) ?_
  simp only [List.take_succ_cons, List.take_zero, List.drop_succ_cons, List.drop_zero, Bool.false_eq_true, if_false, Nat.zero_add, Nat.reduceAdd]
  repeat (go_big_quiet_step (fail))
  refine wpQuiet_nil ?_
  refine wpC_value (by rfl) (by rfl) (exec_copy rfl (HCp.out 1)) (fun h => absurd h (by decide)) ?_
  generalize (if cap = r + 1 then some (⟨g, 0, none⟩ : Addr) else some ⟨g, r + 1, none⟩) = adr
  refine wpC_nil ?_
  simp only [Act.put, List.setIfInBounds_toArray, List.set_cons_succ, List.set_cons_zero]
  clear hf hX1 HF1
  go_wp2_with fail
  go_end0
  have := HFin.out
  rw [HW5.out] at this
  exact this
end Go.Proofs.Ytbjpfnafhhbmaaa.Rad
