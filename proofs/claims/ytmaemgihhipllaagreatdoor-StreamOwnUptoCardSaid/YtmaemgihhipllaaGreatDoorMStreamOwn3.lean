/- Lemmas and walks for StreamOwn, part 3 of 5: the texts Sad19, Sad20, Sad21, Sad22, Sad23, Sad24, Sad25, Sad26, Sad27, Sad28, Sad29, Sad30, Sad31, Rad32, Sad33, Sad34, Sad35, Sad36, Dec, Dec2. -/
import Derived.Test.YtmaemgihhipllaaGreatDoorMStreamOwn2
import Derived.Deep.Cut
import Derived.Laws.EntriesVeiled
import Derived.Test.YtmaemgihhipllaaGreatDoorMStreamOwn1
import Derived.Sort.Walk0
import Derived.RangeFuncNested
import Derived.RangeFuncBound
import Derived.RangeFuncCalls
import Derived.RangeFuncLeaves
import Derived.Shelf.Abstract
import Derived.OwnWalkIn
import Derived.TacticsInMore
import Derived.LoopNIn
import Derived.LoopIn
import Derived.ControlIn
import Derived.Lib.AppendIntMem
import Derived.Lib.ItoaWalk
import Derived.Lib.AtoiErrMem
/- radix: add. -/
namespace Go.Proofs.YtmaemgihhipllaaGreatDoor.Sad
open Go.Proofs.YtmaemgihhipllaaGreatDoor
set_option linter.unusedVariables false
set_option linter.unusedSimpArgs false
open Go.RowKit RT
theorem info_node : (Tryz.prog.info? 86).map (fun i => (i.zero, i.size, i.bytes)) = some (some (.pointer none), 1, 8) := by kernel_rfl
/-- A row into which one more has been laid. -/
theorem row_ins {cur : Array Value} {L : List Value} {z u : Value} {n r : Nat} (h : cur.toList.take (n + 1) = L ++ [z]) (hL : L.length = n) (hr : r ≤ n) (hc : n + 1 ≤ cur.size) :
    ((spliced cur (r + 1) (L.drop r)).setIfInBounds r u).toList.take (n + 1) = L.take r ++ u :: L.drop r := by
  obtain ⟨R, hR⟩ : ∃ R, cur.toList = L ++ ([z] ++ R) := ⟨cur.toList.drop (n + 1), by rw [← List.append_assoc, ← h, List.take_append_drop]⟩
  have hs : (spliced cur (r + 1) (L.drop r)).toList = L.take r ++ ((L ++ [z]).getD r z :: (L.drop r ++ R)) := by
    unfold spliced
    simp only [hR]
    apply List.ext_getElem?
    intro j
    have hl : (L.take r).length = r := by simp; omega
    rcases Nat.lt_or_ge j r with h1 | h1
    · rw [List.append_assoc, List.getElem?_append_left (by simp; omega), List.getElem?_take_of_lt (by omega), List.getElem?_append_left (by omega), List.getElem?_append_left (by omega), List.getElem?_take_of_lt h1]
    · obtain ⟨d, rfl⟩ : ∃ d, j = r + d := ⟨j - r, by omega⟩
      rw [List.getElem?_append_right (by omega : (L.take r).length ≤ r + d), hl, Nat.add_sub_cancel_left]
      cases d with
      | zero =>
        rw [List.append_assoc, List.getElem?_append_left (by simp; omega), List.getElem?_take_of_lt (by omega)]
        simp only [Nat.add_zero, List.getElem?_cons_zero]
        rw [← List.append_assoc, List.getElem?_append_left (by simp; omega)]
        rw [List.getElem?_eq_getElem (show r < (L ++ [z]).length by simp; omega)]
        simp [List.getD, List.getElem?_eq_getElem (show r < (L ++ [z]).length by simp; omega)]
      | succ d =>
        have ht : ((L ++ ([z] ++ R)).take (r + 1)).length = r + 1 := by simp; omega
        simp only [List.getElem?_cons_succ]
        rw [List.append_assoc, List.getElem?_append_right (by omega), ht, show r + (d + 1) - (r + 1) = d by omega]
        congr 2
        rw [List.length_drop, hL, show r + 1 + (n - r) = n + 1 by omega, ← List.append_assoc, List.drop_left' (by simp; omega)]
  rw [Array.toList_setIfInBounds, hs, List.set_append_right _ _ (by simp; omega)]
  simp only [List.length_take, hL, Nat.min_eq_left hr, Nat.sub_self, List.set_cons_zero]
  rw [List.take_append, List.take_of_length_le (by simp; omega)]
  simp only [List.length_take, hL, Nat.min_eq_left hr, show n + 1 - r = (n - r) + 1 by omega, List.take_succ_cons]
  rw [List.take_left' (by simp; omega)]
/-- A node's parts. -/
def Parts (w : World) (ro : Nat → Prop) (b : List UInt8) (v : VT) (k : List RT) (x : Nat) (a : Option Addr) (ca : Nat) (kv : Value) (xs rows : List Nat) : Prop :=
  w.heap[x]? = some (.cells #[.slice a b.length ca, kv, vC v] 89 (0, 0)) ∧ BytesRo w ro a b ca ∧ SliceIs w 0 86 kv k.length (xs.map ptrV) ∧ NodesAt w ro k xs rows
theorem Parts.node {w : World} {ro : Nat → Prop} {b : List UInt8} {v : VT} {k : List RT} {x : Nat} {a : Option Addr} {ca : Nat} {kv : Value} {xs rows : List Nat} (h : Parts w ro b v k x a ca kv xs rows) : NodeAt w ro (.mk b v k) x (x :: ((vblock kv).toList ++ rows)) := by
  rw [NodeAt]
  exact ⟨a, ca, kv, xs, rows, h.1, h.2.1, h.2.2.1, h.2.2.2, rfl⟩
theorem parts_of {w : World} {ro : Nat → Prop} {b : List UInt8} {v : VT} {k : List RT} {x : Nat} {own : List Nat} (h : NodeAt w ro (.mk b v k) x own) : ∃ a ca kv xs rows, Parts w ro b v k x a ca kv xs rows ∧ own = x :: ((vblock kv).toList ++ rows) := by
  rw [NodeAt] at h
  obtain ⟨a, ca, kv, xs, rows, h1, h2, h3, h4, h5⟩ := h
  exact ⟨a, ca, kv, xs, rows, ⟨h1, h2, h3, h4⟩, h5⟩
/-- What add leaves. -/
def Added (w : World) (b : List UInt8) (v : VT) (k : List RT) (x : Nat) (a : Option Addr) (ca : Nat) (kv : Value) (xs : List Nat) (c : UInt8) (y : Nat) (e : Ending) (w' : World) : Prop :=
  e = .returned (.tuple #[]) ∧ ∃ r kv', PlaceB (k.map RT.first) c r ∧ w'.heap[x]? = some (.cells #[.slice a b.length ca, kv', vC v] 89 (0, 0)) ∧
    SliceIs w' 0 86 kv' (k.length + 1) ((xs.take r ++ y :: xs.drop r).map ptrV) ∧ (vblock kv' = vblock kv ∨ ∃ g, vblock kv' = some g ∧ w.heap.size ≤ g) ∧ Chg (fun j => j = x ∨ vblock kv = some j) w w'
set_option maxHeartbeats 1600000 in
set_option maxRecDepth 100000 in
theorem radAdd {w : World} {ro : Nat → Prop} {b : List UInt8} {v : VT} {k : List RT} {x : Nat} {a : Option Addr} {ca : Nat} {kv : Value} {xs rows : List Nat} (h : Parts w ro b v k x a ca kv xs rows) (hx : vblock kv ≠ some x)
    (hb : ∀ u ∈ k, u.begin ≠ []) (hr : (k.map RT.first).Pairwise (· < ·)) (hn : k.length ≤ 1000) {y q p m cm : Nat} {c : UInt8} (hy : w.cell? ⟨y, 0, none⟩ = some (.slice (some ⟨q, p, none⟩) m cm)) (hm : 0 < m) (hc : w.cell? ⟨q, p, none⟩ = some (.int .u8 c.toNat)) :
    Calls Tryz.prog 92 #[ptrV x, ptrV y] w (Added w b v k x a ca kv xs c y) := by
  have HS := Lib.hid (radSeek h.node hb hr hn c)
  obtain ⟨h1, _, h3, h4⟩ := h
  have hl := h4.length
  have H1 := Lib.hid h1
  have H3 := Lib.hid h3
  have hxs := heap_lt h1
  have HX := Lib.hid hx
  clear h1 h3 h4 hb hr hx
  unfold ptrV
  go_enter Tryz.func92, Tryz.ntmps92
  go_wp2_with fail
  refine HS.out.mono ?_
  rintro e w1 ⟨r, hP, rfl, hbl⟩
  have hrl : r ≤ k.length := by have := hP.1; simpa using this
  have h1 : w1.heap[x]? = some (.cells #[.slice a b.length ca, kv, vC v] 89 (0, 0)) := (hbl.block x hxs).trans H1.out
  have hkv : ∀ g, vblock kv = some g → g < w.heap.size := fun g hg => (H3.out.block_lt hg).2
  obtain ⟨i0, g1, g2, g3, g4⟩ := info_parts info_node
  obtain ⟨kv', w2, hr2, hs2, hc2, hv2⟩ := run_append_own1 (P := Tryz.prog) (t := 87) (ty := 87) Tryz.underlying87 g1 g2 g3 g4 rfl (H3.out.below hbl) (.pointer none) rfl (by unfold maxLen; omega) (by omega)
  obtain ⟨g, cap, cur, rfl, _, hrow, hcs, hnc, hcm, htk⟩ := hs2.2.resolve_left (by simp)
  have hgx : g ≠ x := by
    rcases hv2 with hv2 | ⟨g', hv2, hge⟩
    · intro e; exact HX.out (hv2.symm.trans (by rw [← e]; rfl))
    · obtain rfl : g = g' := by simpa [vblock] using hv2
      have := hbl.size; omega
  have h2 : w2.heap[x]? = some (.cells #[.slice a b.length ca, kv, vC v] 89 (0, 0)) := hc2.keep h1 HX.out
  have e3 : w2.setCell ⟨x, 1, none⟩ (.slice (some ⟨g, 0, none⟩) (k.length + 1) cap) = w2.setRow x #[.slice a b.length ca, .slice (some ⟨g, 0, none⟩) (k.length + 1) cap, vC v] := by rw [setCell_eq_setRow w2 x 1 _ _ _ _ h2]; rfl
  obtain ⟨w3, hw3⟩ : ∃ w3, w3 = w2.setCell ⟨x, 1, none⟩ (.slice (some ⟨g, 0, none⟩) (k.length + 1) cap) := ⟨_, rfl⟩
  have h3 : w3.heap[x]? = some (.cells #[.slice a b.length ca, .slice (some ⟨g, 0, none⟩) (k.length + 1) cap, vC v] 89 (0, 0)) := by rw [hw3, e3]; exact heap_setRow h2 _
  have r3 : RowAt w3 g 86 cur := by rw [hw3, e3]; exact hrow.other _ hgx
  obtain ⟨cur4, hcur4⟩ : ∃ cur4, cur4 = spliced cur (r + 1) (((xs.map ptrV).drop r)) := ⟨_, rfl⟩
  have hld : ((xs.map ptrV).drop r).length = k.length - r := by simp [hl]
  have z4 : cur4.size = cur.size := by rw [hcur4]; exact spliced_size _ _ _ (by omega)
  have hcells : ∀ d, ∀ j u, ((xs.map ptrV).drop r)[j]? = some u → (w3.drewN d).cell? ((⟨g, r, none⟩ : Addr).add j) = some u := fun d j u hu => by
    rw [Addr.add_lit]
    refine (r3.drewN d).cell ?_
    rw [List.getElem?_drop] at hu
    have hjl : r + j < k.length := by have := (List.getElem?_eq_some_iff.1 hu).1; simp [hl] at this; omega
    rw [← Array.getElem?_toList]
    have e := congrArg (fun l => l[r + j]?) htk
    simp only [List.getElem?_take_of_lt (show r + j < k.length + 1 by omega)] at e
    rw [e, List.getElem?_append_left (by simp [hl]; omega)]
    exact hu
  have hcpy : ∀ d, (Builtin.copy_ #[87, 87] 3 #[.slice (if cap = r + 1 then some ⟨g, 0, none⟩ else some ⟨g, r + 1, none⟩) (k.length - r) (cap - (r + 1)), .slice (some ⟨g, r, none⟩) (k.length + 1 - r) (cap - r)]).run Tryz.prog (w3.drewN d) =
      .ok (.int .i64 ((k.length - r : Nat) : Int)) ((w3.drewN d).setRow g cur4) := fun d => by
    rw [hcur4]
    split
    · have h0 : (xs.map ptrV).drop r = [] := List.eq_nil_of_length_eq_zero (by omega)
      have := run_copy_row (w3.drewN d) 87 87 3 _ i0 Tryz.underlying87 g1 g3 g 0 (k.length - r) (cap - (r + 1)) cur (r3.drewN d) ⟨g, r, none⟩ (k.length + 1 - r) (cap - r) (k.length - r) (by omega) (by omega) [] (by simp; omega) (by simp) (by simp)
      rw [h0, this]; simp [spliced]
    · exact run_copy_row (w3.drewN d) _ _ _ _ i0 Tryz.underlying87 g1 g3 g (r + 1) _ _ cur (r3.drewN d) ⟨g, r, none⟩ _ _ (k.length - r) (by omega) (by omega) _ hld (hcells d) (fun u hu => by
        obtain ⟨z, _, rfl⟩ := List.mem_map.1 (List.mem_of_mem_drop hu)
        rfl)
  have d4 : ((w3.drewN 1).setRow g cur4).heap[x]? = some (.cells #[.slice a b.length ca, .slice (some ⟨g, 0, none⟩) (k.length + 1) cap, vC v] 89 (0, 0)) := (setRow_other (w3.drewN 1) g x cur4 (Ne.symm hgx)).trans h3
  have r4 : RowAt ((w3.drewN 1).setRow g cur4) g 86 cur4 := (r3.drewN 1).setRow z4
  obtain ⟨w5, hw5⟩ : ∃ w5, w5 = ((w3.drewN 1).setRow g cur4).setCell ⟨g, r, none⟩ (ptrV y) := ⟨_, rfl⟩
  have e5 : w5 = (w3.drewN 1).setRow g (cur4.setIfInBounds r (ptrV y)) := by rw [hw5]; exact (r3.drewN 1).setSet cur4 r _
  have hc5 : Chg (fun j => j = x ∨ vblock kv = some j) w w5 := by
    rw [e5]
    refine ((Chg.of_below (fun j => j = x ∨ vblock kv = some j) hbl).trans hc2 fun j hj _ => .inr hj).trans (S' := fun j => j = x ∨ j = g) ?_ fun j hj hlt => ?_
    · refine (show Chg (fun j => j = x ∨ j = g) w2 w3 from by rw [hw3]; exact Chg.setCell _ _ _ _ (.inl rfl)).trans ((Chg.drewN (fun j => j = x ∨ j = g) w3 1).trans (Chg.setRow (fun j => j = x ∨ j = g) _ _ _ (.inr rfl)) fun _ h _ => h) fun _ h _ => h
    · rcases hj with rfl | rfl
      · exact .inl rfl
      · right
        rcases hv2 with hv2 | ⟨g', hv2, hge⟩
        · exact hv2.symm
        · obtain rfl : j = g' := by simpa [vblock] using hv2
          have := hbl.size; omega
  have hfin : Added w b v k x a ca kv xs c y (.returned (.tuple #[])) w5 := by
    refine ⟨rfl, r, _, hP, ?_, ?_, hv2.imp id fun ⟨g', e1, e2⟩ => ⟨g', e1, Nat.le_trans hbl.size e2⟩, hc5⟩
    · rw [e5]; exact (setRow_other (w3.drewN 1) g x _ (Ne.symm hgx)).trans h3
    · refine ⟨by simp [hl]; omega, .inr ⟨g, cap, cur4.setIfInBounds r (ptrV y), rfl, Nat.zero_le _, ?_, by simp [z4, hcs], hnc, hcm, ?_⟩⟩
      · rw [e5]; exact (r3.drewN 1).setRow (by simp [z4])
      · rw [hcur4]
        have := row_ins (u := ptrV y) htk (by simp [hl]) hrl (by omega)
        rw [this]
        simp
  have HFin := Lib.hid hfin
  have HW3 := Lib.hid hw3
  have HW5 := Lib.hid hw5
  have HCp := Lib.hid hcpy
  have HR2 := Lib.hid hr2
  have c1 := cell_in h1 (i := 1) rfl
  have c2 := cell_in h2 (i := 1) rfl
  have f2 := frozen_in h2 1
  have c3 := cell_in h3 (i := 1) rfl
  have c4 := cell_in d4 (i := 1) rfl
  have c4r := r4.cell (i := r) (v := cur4[r]'(by omega)) (by simp)
  have f4r := r4.free (i := r) (by omega)
  have hq : ¬ cap = r := by omega
  have hqn : r + 1 ≤ k.length + 1 := by omega
  unfold maxLen at hcm
  generalize cur4[r]'_ = old at *
  clear hfin hw3 hw5 hcpy hr2 hc5 e5 r4 d4 hcells hld z4 hcur4 e3 h3 r3 h2 h1 hkv hs2 hc2 hv2 htk hrow hcs HS g1 g2 g3 g4 hP hbl
  go_wp2_with (at_builtin; refine wpList_append_run rfl rfl HR2.out ?_)
  rw [← HW3.out]
  obtain ⟨X1, f, hX1, hf, hF⟩ := classOf (fun w => w.cell? ⟨x, 1, none⟩ = some (.slice (some ⟨g, 0, none⟩) (k.length + 1) cap)) c3
  have HF1 := Lib.hid (hF (w3.drewN 1) c3)
  clear hF
  refine wp_region_text ⟨[13], [], 13⟩ (fun w' => ∃ x : X1, w' = f x) (by kernel_rfl) (by kernel_rfl) HF1.out ?_
  refine wpC_seg false (HF1.out) 13 0 _ _ (by rfl) (by rfl) ?_
  simp only [List.take_succ_cons, List.take_zero, List.drop_succ_cons, List.drop_zero, Bool.false_eq_true, if_false, Nat.zero_add, Nat.reduceAdd]
  repeat (go_big_quiet_step (fail))
  refine wpQuiet_nil ?_
  refine wpC_value (by rfl) (by rfl) (exec_copy rfl (HCp.out 1)) (fun h => absurd h (by decide)) ?_
  generalize (if cap = r + 1 then some (⟨g, 0, none⟩ : Addr) else some ⟨g, r + 1, none⟩) = adr
  refine wpC_nil ?_
  simp only [Act.put, List.setIfInBounds_toArray, List.set_cons_succ, List.set_cons_zero]
  clear hf hX1 HF1
  go_wp2_with fail
  go_end0
  have := HFin.out
  rw [HW5.out] at this
  exact this
end Go.Proofs.YtmaemgihhipllaaGreatDoor.Sad

/- radix: find. -/
namespace Go.Proofs.YtmaemgihhipllaaGreatDoor.Sad
open Go.Proofs.YtmaemgihhipllaaGreatDoor
set_option linter.unusedVariables false
set_option linter.unusedSimpArgs false
open Go.RowKit RT
theorem RT.WFS.rise : ∀ {l : List RT} {n : Nat}, WFS n l → (l.map RT.first).Pairwise (· < ·)
  | [], n, _ => by simp
  | t :: l, n, h => by
    rw [WFS] at h
    rw [List.map_cons, List.pairwise_cons]
    exact ⟨fun a ha => by obtain ⟨u, hu, rfl⟩ := List.mem_map.1 ha; exact h.2.2.1 u hu, RT.WFS.rise h.2.2.2⟩
theorem rise_ge {l : List UInt8} (h : l.Pairwise (· < ·)) : ∀ i (hi : i < l.length), i ≤ l[i].toNat
  | 0, _ => Nat.zero_le _
  | i + 1, hi => by
    have h1 := rise_ge h i (by omega)
    have h2 := List.pairwise_iff_getElem.1 h i (i + 1) (by omega) hi (by omega)
    rw [UInt8.lt_iff_toNat_lt] at h2
    omega
theorem RT.WFS.few {l : List RT} {n : Nat} (h : WFS n l) : l.length ≤ 256 := by
  rcases Nat.eq_zero_or_pos l.length with h0 | h0
  · omega
  · have h1 := rise_ge h.rise (l.length - 1) (by simp; omega)
    have h2 := ((l.map RT.first)[l.length - 1]'(by simp; omega)).toNat_lt
    omega
theorem RT.WF.kids {n : Nat} {b : List UInt8} {v : VT} {k : List RT} (h : WF n (.mk b v k)) : b.length ≤ n ∧ (k = [] → b.length = n) ∧ (k ≠ [] → 2 ≤ k.length ∧ v = zT ∧ b.length < n) ∧ WFS (n - b.length) k := by
  rw [WF] at h
  rcases h.2 with ⟨h1, h2⟩ | ⟨h1, h2, h3, h4⟩
  · exact ⟨h.1, fun _ => h2, fun h => absurd h1 h, by rw [h1, WFS]; trivial⟩
  · exact ⟨h.1, fun h => by rw [h] at h1; simp at h1, fun _ => ⟨h1, h2, h3⟩, h4⟩
theorem place_no {fs : List UInt8} {c : UInt8} {r : Nat} (h : PlaceB fs c r) (hr : fs.Pairwise (· < ·)) (hn : ¬ (r < fs.length ∧ fs.getD r 0 = c)) : ∀ f ∈ fs, f ≠ c := by
  rintro f hf rfl
  obtain ⟨i, hi, hfi⟩ := List.getElem_of_mem hf
  have hg : ∀ j, j < fs.length → fs.getD j 0 = fs[j]! := fun j hj => by simp [List.getD, hj]
  have gi : fs.getD i 0 = f := by simp [List.getD, hi, hfi]
  rcases Nat.lt_or_ge i r with h1 | h1
  · have := h.2.1 i h1
    rw [gi, UInt8.lt_iff_toNat_lt] at this; omega
  · have hrl : r < fs.length := by omega
    have h2 := h.2.2 r (Nat.le_refl _) hrl
    rcases Nat.eq_or_lt_of_le h1 with rfl | h3
    · exact hn ⟨hrl, gi⟩
    · have h4 := List.pairwise_iff_getElem.1 hr r i hrl hi h3
      have gr : fs.getD r 0 = fs[r] := by simp [List.getD, hrl]
      rw [gr, UInt8.le_iff_toNat_le] at h2
      rw [hfi, UInt8.lt_iff_toNat_lt] at h4
      omega
theorem KidAt.slice {w : World} {ro : Nat → Prop} {b : List UInt8} {v : VT} {k : List RT} {y : Nat} {o : List Nat} {i z : Nat} {oi : List Nat} {g : Nat} (h : KidAt w ro b v k y o i z oi g) : ∃ cap, w.cell? ⟨y, 1, none⟩ = some (.slice (some ⟨g, 0, none⟩) k.length cap) := by
  obtain ⟨a, ca, kv, xs, pre, post, h1, h2, h3, h4, _⟩ := h
  rcases h3.2 with ⟨rfl, _⟩ | ⟨g', cap, cur, rfl, _⟩
  · cases h4
  · cases h4
    exact ⟨cap, cell_in h1 (i := 1) rfl⟩
theorem getD_back (b s : List UInt8) (i : Nat) : (b ++ s).getD (b.length + i) 0 = s.getD i 0 := by
  simp only [List.getD]
  rw [List.getElem?_append_right (by omega), Nat.add_sub_cancel_left]
/-- What find answers. -/
def FindR (w : World) (ro : Nat → Prop) (p n : Nat) (t : RT) (x : Nat) (own : List Nat) (s : List UInt8) (e : Ending) (w' : World) : Prop :=
  Below w.heap.size w w' ∧ ((RT.look t s = none ∧ e = .returned (.tuple #[.pointer none, .slice none 0 0])) ∨
    ∃ v y o s' ab c d K va, RT.look t s = some v ∧ Way w ro p n t x own s (.mk s' v []) y o s' ab c d K ∧ e = .returned (.tuple #[ptrV y, va]) ∧ SliceIs w' w.heap.size 86 va ab.length (ab.map ptrV))
set_option maxHeartbeats 3200000 in
set_option maxRecDepth 100000 in
theorem radFind {w : World} {ro : Nat → Prop} {p n : Nat} {t : RT} {x : Nat} {own : List Nat} (h : RootAt w ro p n t x own) {s : List UInt8} (hw : RT.WF s.length t) (hs : s ≠ []) (hs2 : s.length ≤ 1000) {a : Option Addr} {ca : Nat} (ha : BytesIn w a s ca) :
    Calls Tryz.prog 88 #[ptrV p, .slice a s.length ca] w (FindR w ro p n t x own s) := by
  have HH := Lib.hid h
  have HWf := Lib.hid hw
  have c1 := cell_in h.1 (i := 1) rfl
  obtain ⟨n1, hn1⟩ : ∃ n1, s.length = n1 := ⟨_, rfl⟩
  have HA := Lib.hid (And.intro ha (And.intro hs hn1))
  rw [hn1]
  have hn1000 : n1 ≤ 1000 := by omega
  have HS := Lib.hid hs2
  clear h hw hs hs2 ha hn1
  unfold ptrV at *
  go_enter Tryz.func88, Tryz.ntmps88
  go_wp2_with fail
  go_loopw [1, 4, 5] (fun bv xv av wr => ∃ (n2 : Nat) (a2 : Option Addr) (c2 : Nat) (y m2 : Nat) (a3 : Option Addr) (c3 : Nat), n2 ≤ 1000 ∧ m2 ≤ n1 + 1 ∧ bv = .slice a2 n2 c2 ∧ xv = .pointer (some ⟨y, 0, none⟩) ∧ av = .slice a3 m2 c3 ∧
    Hid (∃ s' u o ab c d K, s'.length = n2 ∧ ab.length = m2 ∧ s' ≠ [] ∧ Way w ro p n t x own s u y o s' ab c d K ∧ BytesIn w a2 s' c2 ∧ SliceIs wr w.heap.size 86 (.slice a3 m2 c3) m2 (ab.map ptrV)) ∧ Hid (Below w.heap.size w wr)) (fun _ _ v _ => n1 + 2 - (match v with | .slice _ n _ => n | _ => 0))
  case atStart => exact ⟨n1, a, ca, x, 0, none, 0, hn1000, by omega, rfl, rfl, rfl, Lib.hid ⟨s, t, own, [], p, 1, id, HA.out.2.2, rfl, HA.out.2.1, .here HH.out, HA.out.1, SliceIs.nil _ _ _⟩, Lib.hid (Below.refl _ _)⟩
  case round =>
    obtain ⟨n2, a2, c2, y, m2, a3, c3, hn2, hm2, rfl, rfl, rfl, hI, hB⟩ := hrel
    obtain ⟨s', ⟨b, v, k⟩, o, ab, c, d, K, hs1, hab, hne, hway, hbi, hsl⟩ := hI.out
    clear hI c1
    obtain ⟨hwf, hlook, _, _, _, hdep, _⟩ := hway.plain HWf.out
    obtain ⟨k1, k2, k3, k4⟩ := hwf.kids
    obtain ⟨aa, cc, kv, xs, rows, hp, ho⟩ := parts_of hway.node
    have hm := HA.out.2.2
    have hpb := hp.2.1.bytes.below hB.out
    have hba := hbi.below hB.out
    obtain ⟨ab', ob', rfl, hcells⟩ := hba.2.resolve_left (fun h => hne (List.eq_nil_of_length_eq_zero h))
    have hq := (hB.out.block y (heap_lt hp.1)).trans hp.1
    have hc2 := hba.1
    have HAl := Lib.hid (alike_any hpb hba (by omega) (by omega))
    have hmlen : b.length ≤ s'.length := k1
    obtain ⟨m1, hm1⟩ : ∃ m1, b.length = m1 := ⟨_, rfl⟩
    rw [hm1, hs1] at HAl
    rw [hm1] at hq
    have q0 := cell_in hq (i := 0) rfl
    have q1 := cell_in hq (i := 1) rfl
    rcases Nat.lt_or_ge (alikeN b s') b.length with hlt | hge
    · have hno : RT.look t s = none := by rw [hlook, RT.look, if_pos hlt]
      have HNo := Lib.hid hno
      obtain ⟨al, hal⟩ : ∃ al, alikeN b s' = al := ⟨_, rfl⟩
      rw [hal] at HAl
      rw [hal, hm1] at hlt
      have e1 := decide_eq_true hlt
      clear hno hlook hwf k1 k2 k3 k4 hp ho hq hcells hway hbi hsl hdep hab hs1 hne hm hm1 hal hlt hmlen hba hpb
      go_wp2_with fail
      refine HAl.out.mono ?_
      rintro e w' ⟨rfl, m, rfl⟩
      go_wp2_with fail
      go_ret2
      exact ⟨belowN hB.out _, .inl ⟨HNo.out, rfl⟩⟩
    · have hal : alikeN b s' = b.length := by have := alikeN_le b s'; omega
      have hpre : s'.take b.length = b := alike_full (by omega)
      obtain ⟨s2, hs2⟩ : ∃ s2, s'.drop b.length = s2 := ⟨_, rfl⟩
      have hsp : s' = b ++ s2 := by rw [← hs2]; conv => lhs; rw [← List.take_append_drop b.length s', hpre]
      obtain ⟨n3, hn3⟩ : ∃ n3, n2 - m1 = n3 := ⟨_, rfl⟩
      have hl2 : s2.length = n3 := by rw [← hs2, List.length_drop]; omega
      rw [hal, hm1] at HAl
      rcases Decidable.em (s2 = []) with h0 | h0
      · have hk : k = [] := Decidable.byContradiction fun h => by
          have := (k3 h).2.2
          rw [hsp, h0] at this; simp at this
        subst hk
        have hb' : b = s' := by rw [hsp, h0, List.append_nil]
        have hF : RT.look t s = some v := by
          rw [hlook, ← hb', RT.look, if_neg (by rw [hb'] at hal ⊢; omega), if_pos (by simp)]
        have HFd := Lib.hid (show ∃ v y' o s' ab c d K va, RT.look t s = some v ∧ Way w ro p n t x own s (.mk s' v []) y' o s' ab c d K ∧ Ending.returned (.tuple #[.pointer (some ⟨y, 0, none⟩), .slice a3 m2 c3]) = .returned (.tuple #[ptrV y', va]) ∧ SliceIs wr w.heap.size 86 va ab.length (ab.map ptrV) from
          ⟨v, y, o, s', ab, c, d, K, _, hF, by rw [hb'] at hway; exact hway, rfl, by rw [hab]; exact hsl⟩)
        have e0 : n3 = 0 := by rw [← hl2, h0]; rfl
        have e3 : ((n3 : Int) == 0) = true := by simp [e0]
        have hle : m1 ≤ n2 := by omega
        clear hF hb' hlook hwf k1 k2 k3 k4 hp ho hq hcells hway hbi hsl hdep hab hs1 hne hm hm1 hal hmlen hba hpb hs2 hsp hl2 hpre hge h0 e0
        go_wp2_with fail
        refine HAl.out.mono ?_
        rintro e w' ⟨rfl, m, rfl⟩
        go_wp2_with fail
        all_goals
          go_ret2
          obtain ⟨v, y', o, s', ab, c, d, K, va, q1, q2, q3, q4⟩ := HFd.out
          exact ⟨belowN hB.out _, .inr ⟨v, y', o, s', ab, c, d, K, va, q1, q2, q3, q4⟩⟩
      · have hk : k ≠ [] := fun h => by
          have := k2 h
          exact h0 (List.eq_nil_of_length_eq_zero (by omega))
        have hn0 : 0 < n3 := by rw [← hl2]; exact List.length_pos_iff.2 h0
        obtain ⟨ch, hch⟩ : ∃ ch, s2.getD 0 0 = ch := ⟨_, rfl⟩
        have hcb : wr.cell? ⟨ab', ob' + m1, none⟩ = some (.int .u8 ch.toNat) := by
          rw [hcells m1 (by omega), ← hch, hsp, ← hm1]
          rw [show b.length = b.length + 0 from rfl, getD_back]
        have hwf2 : WFS s2.length k := by rw [hl2, ← hn3, ← hm1, ← hs1]; exact k4
        have hlk : RT.look t s = lookS k s2 := by rw [hlook, hsp, look_append, if_neg h0]
        have hbi2 : BytesIn w (some ⟨ab', ob' + m1, none⟩) s2 (c2 - m1) := by
          refine ⟨by omega, .inr ⟨ab', ob' + m1, rfl, fun i hi => ?_⟩⟩
          obtain ⟨_, _, e, hc⟩ := hbi.2.resolve_left (by omega)
          cases e
          have := hc (m1 + i) (by omega)
          rw [Nat.add_assoc, this, hsp, ← hm1, getD_back]
        have HSk := fun w' (hb' : Below w.heap.size w w') => radSeek (hway.node.chg (Chg.of_below (fun _ => False) hb') (fun _ _ => id) fun _ _ => id) (fun u hu => (hwf2.mem u hu).1) hwf2.rise (by have := hwf2.few; omega) ch
        have hkid : ∀ r, r < k.length → (k.map RT.first).getD r 0 = ch → ∃ z oi g cap u K', w.cell? ⟨y, 1, none⟩ = some (.slice (some ⟨g, 0, none⟩) k.length cap) ∧ Way w ro p n t x own s u z oi s2 (ab ++ [y]) g r K' := fun r hr hf => by
          rw [hsp] at hway
          obtain ⟨z, oi, g, hk⟩ := kid_of hway.node hr
          obtain ⟨cap, hcap⟩ := hk.slice
          refine ⟨z, oi, g, cap, k[r], _, hcap, .down hway hk (by simp [hr]) h0 ?_⟩
          rw [hch, ← hf]; simp [List.getD, hr]
        have hnone : ∀ r, PlaceB (k.map RT.first) ch r → ¬ (r < k.length ∧ (k.map RT.first).getD r 0 = ch) → RT.look t s = none := fun r hP hn => by
          rw [hlk]
          refine lookS_none fun u hu => ?_
          rw [hch]
          exact (place_no hP hwf2.rise (by simpa using hn) _ (List.mem_map.2 ⟨u, hu, rfl⟩)).symm
        have HSk := Lib.hid HSk
        have HKid := Lib.hid hkid
        have HNone := Lib.hid hnone
        have HSl := Lib.hid hsl
        have HBi := Lib.hid (And.intro hbi2 (And.intro hl2 (And.intro hab h0)))
        have e3 : ((n3 : Int) == 0) = false := by simp; omega
        have hle : m1 < n2 := by omega
        have hcne : ¬ (c2 = m1) := by omega
        have hyw := heap_lt hp.1
        have hbw : ab' < w.heap.size := by
          obtain ⟨_, _, e, hc⟩ := hbi.2.resolve_left (by omega)
          cases e
          exact World.block_lt_of_cell? w _ (hc 0 (by omega))
        have hml : m2 ≤ n1 := by omega
        clear hnone hkid hwf2 hlk hbi2 hl2 hlook hwf k1 k2 k3 k4 hp ho hq hcells hway hbi hsl hdep hab hs1 hne hm hm1 hal hmlen hba hpb hs2 hsp hpre hge h0 hk
        go_wp2_with fail
        refine HAl.out.mono ?_
        rintro e w' ⟨rfl, m, rfl⟩
        obtain ⟨i0, g1, g2, g3, g4⟩ := info_parts info_node
        obtain ⟨va, w2, r2, s3, b2⟩ := run_append_one (P := Tryz.prog) (w := wr.drewN m) (t := 87) (ty := 87) Tryz.underlying87 g1 g2 g3 g4 rfl HSl.out hB.out.size (ptrV y) rfl (by unfold maxLen; omega) (by omega)
        unfold ptrV at r2
        have HR2 := Lib.hid r2
        have hb2 := (belowN hB.out m).trans b2
        obtain ⟨a4, c4, rfl, _⟩ := s3.arg
        have HS3 := Lib.hid (And.intro s3 hb2)
        have hcb2 : w2.cell? ⟨ab', ob' + m1, none⟩ = some (.int .u8 ch.toNat) := (b2.cell (p := ⟨ab', ob' + m1, none⟩) hbw).trans hcb
        clear g1 g2 g3 g4 r2 s3 b2 hb2
        go_wp2_with (at_builtin; refine wpList_append_run rfl rfl HR2.out ?_)
        refine (HSk.out w2 HS3.out.2).mono ?_
        rintro e w3 ⟨r, hP, he, hb3⟩
        have hb23 := HS3.out.2.trans (hb3.mono HS3.out.2.size)
        have HB23 := Lib.hid (And.intro hb23 (HS3.out.1.below hb3))
        rcases Decidable.em (r < k.length ∧ (k.map RT.first).getD r 0 = ch) with hok | hok
        · rw [decide_eq_true hok] at he
          subst he
          obtain ⟨z, oi, g, cap, u, K', hy1, hway⟩ := HKid.out r hok.1 hok.2
          have hg := hway.cell.1
          have y1 : w3.cell? ⟨y, 1, none⟩ = some (.slice (some ⟨g, 0, none⟩) k.length cap) := (hb23.cell (p := ⟨y, 1, none⟩) hyw).trans hy1
          have gz : w3.cell? ⟨g, r, none⟩ = some (.pointer (some ⟨z, 0, none⟩)) := (hb23.cell (p := ⟨g, r, none⟩) (World.block_lt_of_cell? w _ hg)).trans hg
          have hrk := hok.1
          have HN : Hid (∃ s' u o ab c d K, s'.length = n3 ∧ ab.length = m2 + 1 ∧ s' ≠ [] ∧ Way w ro p n t x own s u z o s' ab c d K ∧ BytesIn w (some ⟨ab', ob' + m1, none⟩) s' (c2 - m1) ∧ SliceIs w3 w.heap.size 86 (.slice a4 (m2 + 1) c4) (m2 + 1) (ab.map ptrV)) :=
            Lib.hid ⟨s2, u, oi, ab ++ [y], g, r, _, HBi.out.2.1, by simp [HBi.out.2.2.1], HBi.out.2.2.2, hway, HBi.out.1, by have := HB23.out.2; rw [List.map_append]; exact this⟩
          clear hok hway hg hb23 hb3 hP hcb2 hcb hy1
          go_wp2_with fail
          go_roundw
          case rel => exact ⟨n3, some ⟨ab', ob' + m1, none⟩, c2 - m1, z, m2 + 1, a4, c4, by omega, by omega, rfl, rfl, rfl, HN, Lib.hid HB23.out.1⟩
          case measure => simp; omega
        · have hno := HNone.out r hP hok
          have HNo := Lib.hid hno
          rw [decide_eq_false hok] at he
          subst he
          clear hno hok hP hb23 hb3 hcb2 hcb
          go_wp2_with fail
          go_ret2
          exact ⟨HB23.out.1, .inl ⟨HNo.out, rfl⟩⟩
end Go.Proofs.YtmaemgihhipllaaGreatDoor.Sad

/- radix: whole trees; Get. -/
namespace Go.Proofs.YtmaemgihhipllaaGreatDoor.Sad
open Go.Proofs.YtmaemgihhipllaaGreatDoor
set_option linter.unusedVariables false
set_option linter.unusedSimpArgs false
open Go.RowKit RT
/-- Tree p, in blocks of G, has the things T; it counts n of them. -/
def TreeF (w : World) (p : Nat) (G : Nat → Prop) (T : Option RT) (n : Nat) : Prop :=
  (∀ k, G k → k < w.heap.size) ∧ match T with
  | none => w.heap[p]? = some (.cells #[.bool true, .pointer none, .int .i64 n] 94 (0, 0)) ∧ G p
  | some t => WF 16 t ∧ ∃ ro x own, RootAt w ro p n t x own ∧ ∀ k, k = p ∨ k ∈ own ∨ ro k → G k
def lookO (T : Option RT) (s : List UInt8) : Option VT := T.bind fun t => RT.look t s
def putO (T : Option RT) (s : List UInt8) (v : VT) : Option RT := some (match T with
  | none => .mk s v []
  | some t => RT.put t s v)
def delO (T : Option RT) (s : List UInt8) : Option RT := T.bind fun t => if t.kids.isEmpty then none else some (RT.del t s)
theorem RootAt.chg {w w' : World} {ro : Nat → Prop} {p n : Nat} {t : RT} {x : Nat} {own : List Nat} (h : RootAt w ro p n t x own) {S : Nat → Prop} (hc : Chg S w w') (hr : ∀ k, ro k → ¬ S k) (hd : ∀ k ∈ p :: own, ¬ S k) : RootAt w' ro p n t x own :=
  ⟨hc.keep h.1 (hd p (by simp)), h.2.1.chg hc hr fun k hk => hd k (by simp [hk]), h.2.2.1, fun k hk => ⟨(h.2.2.2 k hk).1, Nat.lt_of_lt_of_le (h.2.2.2 k hk).2 hc.size⟩⟩
theorem TreeF.chg {w w' : World} {p : Nat} {G : Nat → Prop} {T : Option RT} {n : Nat} (h : TreeF w p G T n) {S : Nat → Prop} (hc : Chg S w w') (hd : ∀ k, G k → ¬ S k) : TreeF w' p G T n := by
  refine ⟨fun k hk => Nat.lt_of_lt_of_le (h.1 k hk) hc.size, ?_⟩
  cases T with
  | none => exact ⟨hc.keep h.2.1 (hd p h.2.2), h.2.2⟩
  | some t =>
    obtain ⟨_, hw, ro, x, own, h1, h2⟩ := h
    exact ⟨hw, ro, x, own, h1.chg hc (fun k hk => hd k (h2 k (.inr (.inr hk)))) fun k hk => hd k (h2 k ((List.mem_cons.1 hk).imp id .inl)), h2⟩
theorem TreeF.below {w w' : World} {p : Nat} {G : Nat → Prop} {T : Option RT} {n : Nat} (h : TreeF w p G T n) (hb : Below w.heap.size w w') : TreeF w' p G T n := h.chg (Chg.of_below (fun _ => False) hb) fun _ _ => id
theorem TreeF.head {w : World} {p : Nat} {G : Nat → Prop} {T : Option RT} {n : Nat} (h : TreeF w p G T n) : ∃ v, w.heap[p]? = some (.cells #[.bool true, v, .int .i64 n] 94 (0, 0)) ∧ (T = none → v = .pointer none) ∧ (T ≠ none → ∃ x, v = ptrV x) ∧ G p := by
  cases T with
  | none => exact ⟨_, h.2.1, fun _ => rfl, fun h => absurd rfl h, h.2.2⟩
  | some t =>
    obtain ⟨_, hw, ro, x, own, h1, h2⟩ := h
    exact ⟨_, h1.1, fun h => (by cases h), fun _ => ⟨x, rfl⟩, h2 p (.inl rfl)⟩
theorem slice_bytes {w : World} {B : Nat} {v : Value} {n : Nat} {xs : List UInt8} (h : SliceIs w B 5 v n (xs.map u8v)) : ∃ a ca, v = .slice a n ca ∧ BytesIn w a xs ca := by
  have hl : xs.length = n := by have := h.1; simpa using this
  rcases h.2 with ⟨rfl, rfl⟩ | ⟨g, cap, cur, rfl, _, h3, h4, h5, _, h7⟩
  · exact ⟨none, 0, rfl, by omega, .inl hl⟩
  · refine ⟨_, cap, rfl, by omega, .inr ⟨g, 0, rfl, fun i hi => h3.cell ?_⟩⟩
    have e := congrArg (fun l => l[i]?) h7
    simp only [List.getElem?_take_of_lt (show i < n by omega), Array.getElem?_toList] at e
    rw [Nat.zero_add, e]
    simp [List.getD, hi]
/-- What find answers over whole trees. -/
def FindF (w : World) (p : Nat) (G : Nat → Prop) (T : Option RT) (n : Nat) (s : List UInt8) (e : Ending) (w' : World) : Prop :=
  Below w.heap.size w w' ∧ ((lookO T s = none ∧ e = .returned (.tuple #[.pointer none, .slice none 0 0])) ∨
    ∃ ro t x own v y o s' ab c d K va, T = some t ∧ WF 16 t ∧ (∀ k, k = p ∨ k ∈ own ∨ ro k → G k) ∧ RT.look t s = some v ∧ Way w ro p n t x own s (.mk s' v []) y o s' ab c d K ∧ e = .returned (.tuple #[.pointer (some ⟨y, 0, none⟩), va]) ∧ SliceIs w' w.heap.size 86 va ab.length (ab.map ptrV))
set_option maxHeartbeats 800000 in
set_option maxRecDepth 100000 in
theorem radFindF {w : World} {p : Nat} {G : Nat → Prop} {T : Option RT} {n : Nat} (h : TreeF w p G T n) {s : List UInt8} (hs : s.length = 16) {a : Option Addr} {ca : Nat} (ha : BytesIn w a s ca) :
    Calls Tryz.prog 88 #[ptrV p, .slice a 16 ca] w (FindF w p G T n s) := by
  cases T with
  | none =>
    have c1 := cell_in h.2.1 (i := 1) rfl
    clear h ha
    unfold ptrV
    go_enter Tryz.func88, Tryz.ntmps88
    go_wp2_with fail
    go_loopw [4] (fun x wr => x = .pointer none ∧ w = wr) (fun _ _ => 0)
    case atStart => exact ⟨rfl, rfl⟩
    case round =>
      obtain ⟨rfl, rfl⟩ := hrel
      go_wp2_with fail
      go_ret2
      exact ⟨Below.refl _ _, .inl ⟨rfl, rfl⟩⟩
  | some t =>
    obtain ⟨_, hw, ro, x, own, h1, h2⟩ := h
    have := radFind h1 (s := s) (by rw [hs]; exact hw) (fun e => by rw [e] at hs; simp at hs) (by omega) ha
    rw [hs] at this
    refine this.mono ?_
    rintro e w' ⟨hb, hc⟩
    refine ⟨hb, hc.imp (fun h => h) ?_⟩
    rintro ⟨v, y, o, s', ab, c, d, K, va, q1, q2, q3, q4⟩
    exact ⟨ro, t, x, own, v, y, o, s', ab, c, d, K, va, rfl, hw, h2, q1, q2, q3, q4⟩
theorem leaf_cell {w : World} {ro : Nat → Prop} {b : List UInt8} {v : VT} {k : List RT} {x : Nat} {own : List Nat} (h : NodeAt w ro (.mk b v k) x own) : w.cell? ⟨x, 2, none⟩ = some (vC v) ∧ x < w.heap.size := by
  obtain ⟨a, ca, kv, xs, rows, hp, _⟩ := parts_of h
  exact ⟨cell_in hp.1 (i := 2) rfl, heap_lt hp.1⟩
end Go.Proofs.YtmaemgihhipllaaGreatDoor.Sad

/- radix: what a change leaves, in one word. -/
namespace Go.Proofs.YtmaemgihhipllaaGreatDoor.Sad
open Go.Proofs.YtmaemgihhipllaaGreatDoor
set_option linter.unusedVariables false
set_option linter.unusedSimpArgs false
open Go.RowKit RT
theorem free_at {w : World} {c d : Nat} {cs : Array Value} {E : TypeId} {fz : Nat × Nat} (h : w.heap[c]? = some (.cells cs E fz)) (hf : ¬ (fz.1 ≤ d ∧ d < fz.2)) : w.frozen? ⟨c, d, none⟩ = false := by
  obtain ⟨lo, hi⟩ := fz
  simp only [World.frozen?, h, Bool.and_eq_false_iff, decide_eq_false_iff_not]
  by_cases h1 : lo ≤ d
  · exact .inr fun h2 => hf ⟨h1, h2⟩
  · exact .inl h1
/-- A tree that a change has left: its blocks are old ones or new ones. -/
theorem Way.done {w : World} {ro : Nat → Prop} {p n : Nat} {t : RT} {x : Nat} {own : List Nat} {s : List UInt8} {u : RT} {y : Nat} {o : List Nat} {s' : List UInt8} {ab : List Nat} {c d : Nat} {K : RT → RT}
    (h : Way w ro p n t x own s u y o s' ab c d K) {w0 w' : World} {G : Nat → Prop} {u' : RT} {y' : Nat} {o' : List Nat} (hGp : G p) (hGo : ∀ k ∈ own, G k) (hGr : ∀ k, ro k → (G k ∨ w0.heap.size ≤ k) ∧ k < w.heap.size) (hGl : ∀ k, G k → k < w0.heap.size) (h0 : Chg G w0 w)
    (hc : Chg (fun k => k ∈ o ∨ k = c) w w') (hs : SetAt w w' c d (ptrV y')) (hn : NodeAt w' ro u' y' o') (hd : o'.Nodup) (ho : ∀ k ∈ o', (k ∈ o ∨ w.heap.size ≤ k) ∧ k < w'.heap.size) (hw : WF 16 (K u')) :
    ∃ G', TreeF w' p G' (some (K u')) n ∧ Fresh w0 G G' ∧ Chg G w0 w' := by
  have hsub := h.sub
  have hroot := h.root
  obtain ⟨x', own', h1, h2⟩ := h.back hc hs hn (fun _ => id) (fun _ => .inl) hd fun k hk => ⟨(ho k hk).1, fun hr => by
    rcases (ho k hk).1 with hk' | hk'
    · exact (hroot.2.2.2 k (by simp [hsub.1 k hk'])).1 hr
    · have := (hGr k hr).2; omega, (ho k hk).2⟩
  have hsz := h0.size
  refine ⟨fun k => (G k ∨ w0.heap.size ≤ k) ∧ k < w'.heap.size, ⟨fun k hk => hk.2, hw, ro, x', own', h1, ?_⟩, fun k hk => hk.1, h0.trans hc ?_⟩
  · rintro k (rfl | hk | hk)
    · exact ⟨.inl hGp, (h1.2.2.2 k (by simp)).2⟩
    · refine ⟨?_, (h1.2.2.2 k (by simp [hk])).2⟩
      rcases h2 k hk with hk | hk
      · exact .inl (hGo k hk)
      · exact .inr (by omega)
    · exact ⟨(hGr k hk).1, Nat.lt_of_lt_of_le (hGr k hk).2 hc.size⟩
  · rintro k (hk | rfl) _
    · exact hGo k (hsub.1 k hk)
    · rcases List.mem_cons.1 hsub.2.2.2 with rfl | hk
      · exact hGp
      · exact hGo k hk
theorem SetAt.same {w w' : World} {c d : Nat} {S : Nat → Prop} {v : Value} (hc : Chg S w w') (hS : ¬ S c) (hv : w.cell? ⟨c, d, none⟩ = some v) : SetAt w w' c d v := by
  intro cs E fz hcs
  have hv' : cs[d]? = some v := by simpa [World.cell?, hcs] using hv
  have e : cs.setIfInBounds d v = cs := by
    apply Array.ext_getElem?
    intro j
    rw [Array.getElem?_setIfInBounds]
    split
    · next hj =>
      subst hj
      rw [hv']
      split
      · rfl
      · next hj2 => rw [Array.getElem?_eq_none (by omega)] at hv'; cases hv'
    · rfl
  rw [e]
  exact hc.keep hcs hS
/-- Nodes below one, and one more among them. -/
theorem NodesAt.ins {w : World} {ro : Nat → Prop} {u : RT} {z : Nat} {oz : List Nat} (hu : NodeAt w ro u z oz) : ∀ {l : List RT} {xs own : List Nat}, NodesAt w ro l xs own → ∀ r, ∃ pre post, own = pre ++ post ∧ NodesAt w ro (l.take r ++ u :: l.drop r) (xs.take r ++ z :: xs.drop r) (pre ++ (oz ++ post))
  | l, xs, own, h, 0 => by
    refine ⟨[], own, rfl, ?_⟩
    simp only [List.take_zero, List.nil_append, List.drop_zero]
    rw [NodesAt]
    exact ⟨z, xs, oz, own, rfl, hu, h, rfl⟩
  | [], xs, own, h, r + 1 => by
    rw [NodesAt] at h
    obtain ⟨rfl, rfl⟩ := h
    refine ⟨[], [], rfl, ?_⟩
    simp only [List.take_nil, List.drop_nil, List.nil_append, List.append_nil]
    rw [NodesAt]
    exact ⟨z, [], oz, [], rfl, hu, by rw [NodesAt]; exact ⟨rfl, rfl⟩, by simp⟩
  | t :: l, xs, own, h, r + 1 => by
    rw [NodesAt] at h
    obtain ⟨x, ys, o1, o2, rfl, h2, h3, rfl⟩ := h
    obtain ⟨pre, post, rfl, h4⟩ := NodesAt.ins hu h3 r
    refine ⟨o1 ++ pre, post, by simp, ?_⟩
    simp only [List.take_succ_cons, List.drop_succ_cons, List.cons_append]
    rw [NodesAt]
    exact ⟨x, _, o1, _, rfl, h2, h4, by simp⟩
theorem RT.putS_ins {s : List UInt8} (v : Value) (x : VT) : ∀ {l : List RT} {r : Nat}, PlaceB (l.map RT.first) (s.getD 0 0) r → (∀ u ∈ l, u.first ≠ s.getD 0 0) → putS l s x = l.take r ++ RT.mk s x [] :: l.drop r
  | [], r, h, _ => by
    rw [putS]; simp
  | t :: l, 0, h, hn => by
    have h1 := h.2.2 0 (Nat.le_refl _) (by simp)
    simp only [List.map_cons, List.getD_cons_zero] at h1
    have h2 := hn t (by simp)
    rw [putS, if_neg h2, if_pos (lt_of_le_ne h1 fun e => h2 e.symm)]
    rfl
  | t :: l, r + 1, h, hn => by
    have h1 := h.2.1 0 (by omega)
    simp only [List.map_cons, List.getD_cons_zero] at h1
    have ih := RT.putS_ins v x (l := l) (r := r) ⟨by have := h.1; simpa using this, fun i hi => by have := h.2.1 (i + 1) (by omega); simpa using this, fun i h3 h4 => by have := h.2.2 (i + 1) (by omega) (by simpa using h4); simpa using this⟩ fun u hu => hn u (by simp [hu])
    rw [putS, if_neg (hn t (by simp)), if_neg (RT.not_lt_of_lt h1), ih]
    rfl
theorem RT.addK_one {t u : RT} {r : Nat} (h : PlaceB ([t].map RT.first) u.first r) (hn : t.first ≠ u.first) : addK [t] u = [t].take r ++ u :: [t].drop r := by
  unfold addK
  have hr : r ≤ 1 := by have := h.1; simpa using this
  rcases (show r = 0 ∨ r = 1 by omega) with rfl | rfl
  · have := h.2.2 0 (by omega) (by simp)
    simp only [List.map_cons, List.getD_cons_zero] at this
    rw [if_pos this]; rfl
  · have := h.2.1 0 (by omega)
    simp only [List.map_cons, List.getD_cons_zero] at this
    rw [if_neg (fun h' => by rw [UInt8.le_iff_toNat_le] at h'; rw [UInt8.lt_iff_toNat_lt] at this; omega)]
    rfl
theorem RootAt.more {w : World} {ro ro' : Nat → Prop} {p n : Nat} {t : RT} {x : Nat} {own : List Nat} (h : RootAt w ro p n t x own) (hr : ∀ k, ro k → ro' k) (hn : ∀ k ∈ p :: own, ¬ ro' k) : RootAt w ro' p n t x own :=
  ⟨h.1, h.2.1.ro hr, h.2.2.1, fun k hk => ⟨hn k hk, (h.2.2.2 k hk).2⟩⟩
theorem Parts.below {w w' : World} {ro : Nat → Prop} {b : List UInt8} {v : VT} {k : List RT} {x : Nat} {a : Option Addr} {ca : Nat} {kv : Value} {xs rows : List Nat} (h : Parts w ro b v k x a ca kv xs rows) (hb : Below w.heap.size w w') : Parts w' ro b v k x a ca kv xs rows := by
  have hc := Chg.of_below (fun _ => False) hb
  exact ⟨hc.keep h.1 id, h.2.1.chg hc fun _ _ => id, h.2.2.1.chg hc fun _ _ => id, NodesAt.chg hc (fun _ _ => id) h.2.2.2 fun _ _ => id⟩
end Go.Proofs.YtmaemgihhipllaaGreatDoor.Sad

/- radix: Put of what is there; Put into a tree without things. -/
namespace Go.Proofs.YtmaemgihhipllaaGreatDoor.Sad
open Go.Proofs.YtmaemgihhipllaaGreatDoor
set_option linter.unusedVariables false
set_option linter.unusedSimpArgs false
open Go.RowKit RT
theorem alikeN_self : ∀ s : List UInt8, alikeN s s = s.length
  | [] => rfl
  | x :: s => by simp [alikeN, alikeN_self s]
theorem RT.put_leaf (s : List UInt8) (v v' : VT) (k : List RT) : RT.put (.mk s v k) s v' = .mk s v' k := by
  rw [RT.put, alikeN_self, if_neg (by omega)]
  simp
theorem put_back {w w' : World} {p : Nat} {G : Nat → Prop} {ro : Nat → Prop} {t : RT} {x n : Nat} {own : List Nat} {s : List UInt8} {v0 v : VT} {y : Nat} {o : List Nat} {s' : List UInt8} {ab : List Nat} {c d : Nat} {K : RT → RT} {w0 : World}
    (hs : s.length = 16) (hG : ∀ k, k = p ∨ k ∈ own ∨ ro k → G k) (hGl : ∀ k, G k → k < w0.heap.size) (h0 : Below w0.heap.size w0 w) (hw : WF 16 t)
    (hway : Way w ro p n t x own s (.mk s' v0 []) y o s' ab c d K) (hb : Below w.heap.size w w') :
    ∃ G', TreeF (w'.setCell ⟨y, 2, none⟩ (vC v)) p G' (putO (some t) s v) n ∧ Fresh w0 G G' ∧ Chg G w0 (w'.setCell ⟨y, 2, none⟩ (vC v)) := by
  obtain ⟨a, ca, kv, xs, rows, hp, ho⟩ := parts_of hway.node
  have hp' := hp.below hb
  have hsub := hway.sub
  have hyo : y ∈ o := by rw [ho]; simp
  have hc1 : Chg (fun k => k = y) w (w'.setCell ⟨y, 2, none⟩ (vC v)) := (Chg.of_below (fun k => k = y) hb).trans (Chg.setCell (fun k => k = y) _ _ _ rfl) fun _ h _ => h
  have e := setCell_eq_setRow w' y 2 _ _ _ (vC v) hp'.1
  have hk : ∀ q, q ∈ own → q < w.heap.size ∧ ¬ ro q := fun q hq => by have := hway.root.2.2.2 q (by simp [hq]); exact ⟨this.2, this.1⟩
  have hkvy : ∀ g, vblock kv = some g → g ≠ y := fun g hg e => by
    have := hsub.2.1
    rw [ho, hg, e] at this
    simp at this
  have hn : NodeAt (w'.setCell ⟨y, 2, none⟩ (vC v)) ro (.mk s' v []) y o := by
    rw [NodeAt]
    have hcs : Chg (fun k => k = y) w' (w'.setCell ⟨y, 2, none⟩ (vC v)) := Chg.setCell (fun k => k = y) _ _ _ rfl
    have hro : ∀ k, ro k → ¬ k = y := fun k hk' e => (hk y (hsub.1 y hyo)).2 (e ▸ hk')
    have h4 := hp'.2.2.2
    rw [NodesAt] at h4
    refine ⟨a, ca, kv, xs, rows, by rw [e]; exact heap_setRow hp'.1 _, hp'.2.1.chg hcs hro, hp'.2.2.1.chg hcs fun g hg => hkvy g hg, by rw [NodesAt]; exact h4, ho⟩
  have hpl := hway.plain (by rw [hs]; exact hw)
  have hput : RT.put t s v = K (.mk s' v []) := by rw [hpl.2.2.1, RT.put_leaf]
  have hWF : WF 16 (K (.mk s' v [])) := by rw [← hput]; exact WF_put v hw hs
  obtain ⟨G', h1, h2, h3⟩ := hway.done (w0 := w0) (G := G) (hG p (.inl rfl)) (fun k hk => hG k (.inr (.inl hk))) (fun k hk => ⟨.inl (hG k (.inr (.inr hk))), Nat.lt_of_lt_of_le (hGl k (hG k (.inr (.inr hk)))) h0.size⟩) hGl (Chg.of_below G h0)
    (hc1.mono fun k hk _ => .inl (hk ▸ hyo)) (SetAt.same hc1 (fun e => hsub.2.2.1 (e ▸ hyo)) hway.cell.1) hn hsub.2.1 (fun k hk' => ⟨.inl hk', Nat.lt_of_lt_of_le (hk k (hsub.1 k hk')).1 hc1.size⟩) hWF
  exact ⟨G', by rw [show putO (some t) s v = some (K (.mk s' v [])) by show some (RT.put t s v) = _; rw [hput]]; exact h1, h2, h3⟩
set_option maxHeartbeats 800000 in
set_option maxRecDepth 100000 in
theorem radPut_old {w : World} {p : Nat} {G : Nat → Prop} {T : Option RT} {n : Nat} (h : TreeF w p G T n) {ms seq : Nat} (h1 : ms < 18446744073709551616) (h2 : seq < 18446744073709551616) (v : VT) (hl : lookO T (idBytes ms seq) ≠ none) :
    Calls Tryz.prog 60 #[ptrV p, .agg #[.int .u64 ms, .int .u64 seq], vC v] w fun e w' => e = .returned (.bool false) ∧ ∃ G', TreeF w' p G' (putO T (idBytes ms seq) v) n ∧ Fresh w G G' ∧ Chg G w w' := by
  have HF := Lib.hid (fun w' (hb : Below w.heap.size w w') a ca (ha : BytesIn w' a (idBytes ms seq) ca) => radFindF (h.below hb) (idBytes_length ms seq) ha)
  have HBy := Lib.hid (fun w => bytes_any ms seq h1 h2 w)
  obtain ⟨hv, hh, _⟩ := h.head
  have hplt := heap_lt hh
  have c0 := cell_in hh (i := 0) rfl
  have HT := Lib.hid h.1
  obtain ⟨w1, hw1⟩ : ∃ w1, w1 = w.alloc (.cells #[.int .u64 ms, .int .u64 seq] 41) := ⟨_, rfl⟩
  have hb1 : Below w.heap.size w w1 := by rw [hw1]; exact (Below.refl _ _).alloc (Nat.le_refl _) _
  have HW := Lib.hid hw1
  have HB1 := Lib.hid hb1
  have HL := Lib.hid hl
  clear h h1 h2 hw1 hb1 hl hh
  unfold ptrV at *
  go_enter Tryz.func60, Tryz.ntmps60
  go_wp2_with fail
  rw [← HW.out]
  refine (HBy.out _).mono ?_
  rintro e w2 ⟨bv, rfl, hs, hb⟩
  obtain ⟨a, ca, rfl, hbi⟩ := slice_bytes hs
  have HB2 := Lib.hid (HB1.out.trans (hb.mono HB1.out.size))
  have HBi := Lib.hid hbi
  clear hs hb hbi
  go_wp2_with fail
  refine (HF.out w2 HB2.out a ca HBi.out).mono ?_
  rintro e w3 ⟨hb3, hcase⟩
  obtain ⟨ro, t, x, own, v0, y, o, s', ab, c, d, K, va, rfl, hw, hG, hl, hway, rfl, hsl⟩ := hcase.resolve_left (fun h => HL.out h.1)
  obtain ⟨a', ca', kv, xs, rows, hp, ho⟩ := parts_of hway.node
  have hp3 := (hp.below hb3).1
  have y2 := cell_in hp3 (i := 2) rfl
  have f2 := frozen_in hp3 2
  obtain ⟨a5, c5, rfl, _⟩ := hsl.arg
  have HFin := Lib.hid (put_back (v := v) (idBytes_length ms seq) hG HT.out HB2.out hw hway hb3)
  clear hp3 hp ho hway hl hG hsl hb3 hw hcase
  go_wp2_with fail
  go_ret
  exact ⟨rfl, HFin.out⟩
theorem slice_ro {w : World} {B : Nat} {a : Option Addr} {n ca : Nat} {xs : List UInt8} (h : SliceIs w B 5 (.slice a n ca) n (xs.map u8v)) : BytesRo w (fun k => vblock (.slice a n ca) = some k) a xs ca := by
  have hl : xs.length = n := by have := h.1; simpa using this
  rcases h.2 with ⟨he, rfl⟩ | ⟨g, cap, cur, he, _, h3, h4, h5, _, h7⟩
  · cases he
    exact ⟨by omega, .inl hl⟩
  · cases he
    refine ⟨by omega, .inr ⟨g, 0, rfl, rfl, h3.lt, fun i hi => h3.cell ?_⟩⟩
    have e := congrArg (fun l => l[i]?) h7
    simp only [List.getElem?_take_of_lt (show i < n by omega), Array.getElem?_toList] at e
    rw [Nat.zero_add, e]
    simp [List.getD, hi]
theorem put_first {w w1 w4 : World} {p : Nat} {G : Nat → Prop} {n : Nat} {a : Option Addr} {ca : Nat} {s : List UInt8} {v : VT} (h : TreeF w p G none n) (hh : w4.heap[p]? = some (.cells #[.bool true, .pointer none, .int .i64 ((n : Int) + 1)] 94 (0, 0)))
    (hc : Chg (fun k => k = p) w w4) (hs : s.length = 16) (hw1 : w.heap.size ≤ w1.heap.size) (hsl : SliceIs w4 w1.heap.size 5 (.slice a 16 ca) 16 (s.map u8v)) :
    ∃ G', TreeF ((w4.alloc (.cells #[.slice a 16 ca, .slice none 0 0, vC v] 89)).setCell ⟨p, 1, none⟩ (.pointer (some ⟨w4.heap.size, 0, none⟩))) p G' (putO none s v) (n + 1) ∧ Fresh w G G' ∧
      Chg G w ((w4.alloc (.cells #[.slice a 16 ca, .slice none 0 0, vC v] 89)).setCell ⟨p, 1, none⟩ (.pointer (some ⟨w4.heap.size, 0, none⟩))) := by
  obtain ⟨w5, hw5⟩ : ∃ w5, w5 = w4.alloc (.cells #[.slice a 16 ca, .slice none 0 0, vC v] 89) := ⟨_, rfl⟩
  obtain ⟨w6, hw6⟩ : ∃ w6, w6 = w5.setCell ⟨p, 1, none⟩ (.pointer (some ⟨w4.heap.size, 0, none⟩)) := ⟨_, rfl⟩
  rw [← hw5, ← hw6]
  have hp4 := heap_lt hh
  have hp5 : w5.heap[p]? = some (.cells #[.bool true, .pointer none, .int .i64 ((n : Int) + 1)] 94 (0, 0)) := by rw [hw5]; exact heap_old hh _
  have hp6 : w6.heap[p]? = some (.cells #[.bool true, ptrV w4.heap.size, .int .i64 ((n : Int) + 1)] 94 (0, 0)) := by rw [hw6]; exact setCell_head hp5 1 _
  have hc56 : Chg (fun k => k = p) w5 w6 := by rw [hw6]; exact Chg.setCell _ _ _ _ rfl
  have hc45 : Chg (fun k => k = p) w4 w5 := by rw [hw5]; exact Chg.alloc _ _ _
  have hc46 := hc45.trans hc56 fun _ h _ => h
  have hn5 : w5.heap[w4.heap.size]? = some (.cells #[.slice a 16 ca, .slice none 0 0, vC v] 89 (0, 0)) := by rw [hw5]; exact heap_new _ _
  have hn6 := hc56.keep hn5 (by omega)
  have hpw := heap_lt h.2.1
  have hbl : ∀ k, vblock (.slice a 16 ca) = some k → w.heap.size ≤ k ∧ k < w4.heap.size := fun k hk => by have := hsl.block_lt hk; omega
  have hsl6 := hsl.chg hc46 fun k hk e => by have := hbl k hk; omega
  have h6 : w6.heap.size = w4.heap.size + 1 := by rw [hw6, hw5]; simp [World.setCell]
  have hsz := hc.size
  refine ⟨fun k => (G k ∨ w.heap.size ≤ k) ∧ k < w6.heap.size, ⟨fun k hk => hk.2, ?_⟩, fun k hk => hk.1, (hc.trans hc46 fun _ h _ => h).mono fun k hk _ => hk ▸ h.2.2⟩
  show WF 16 (RT.mk s v []) ∧ _
  refine ⟨by rw [WF]; exact ⟨by omega, .inl ⟨rfl, hs⟩⟩, fun k => vblock (.slice a 16 ca) = some k, w4.heap.size, [w4.heap.size], ⟨hp6, ?_, by simp; omega, ?_⟩, ?_⟩
  · rw [NodeAt]
    exact ⟨a, ca, .slice none 0 0, [], [], by rw [hs]; exact hn6, slice_ro hsl6, SliceIs.nil _ _ _, by rw [NodesAt]; exact ⟨rfl, rfl⟩, by simp [vblock]⟩
  · intro k hk
    simp only [List.mem_cons, List.not_mem_nil, or_false] at hk
    refine ⟨fun e => ?_, by omega⟩
    have := hbl k e
    omega
  · rintro k (rfl | hk | hk)
    · exact ⟨.inl h.2.2, by omega⟩
    · simp only [List.mem_cons, List.not_mem_nil, or_false] at hk
      exact ⟨.inr (by omega), by omega⟩
    · have := hbl k hk
      exact ⟨.inr this.1, by omega⟩
set_option maxHeartbeats 800000 in
set_option maxRecDepth 100000 in
theorem radPut_first {w : World} {p : Nat} {G : Nat → Prop} {n : Nat} (h : TreeF w p G none n) {ms seq : Nat} (h1 : ms < 18446744073709551616) (h2 : seq < 18446744073709551616) (v : VT) (hn : n ≤ 1000000000) :
    Calls Tryz.prog 60 #[ptrV p, .agg #[.int .u64 ms, .int .u64 seq], vC v] w fun e w' => e = .returned (.bool true) ∧ ∃ G', TreeF w' p G' (putO none (idBytes ms seq) v) (n + 1) ∧ Fresh w G G' ∧ Chg G w w' := by
  have HF := Lib.hid (fun w' (hb : Below w.heap.size w w') a ca (ha : BytesIn w' a (idBytes ms seq) ca) => radFindF (h.below hb) (idBytes_length ms seq) ha)
  have HBy := Lib.hid (fun w => bytes_any ms seq h1 h2 w)
  have hh := h.2.1
  have hplt := heap_lt hh
  have c0 := cell_in hh (i := 0) rfl
  have HT := Lib.hid h
  obtain ⟨w1, hw1⟩ : ∃ w1, w1 = w.alloc (.cells #[.int .u64 ms, .int .u64 seq] 41) := ⟨_, rfl⟩
  have hb1 : Below w.heap.size w w1 := by rw [hw1]; exact (Below.refl _ _).alloc (Nat.le_refl _) _
  have HW := Lib.hid hw1
  have HB1 := Lib.hid hb1
  have HH := Lib.hid hh
  clear h h1 h2 hw1 hb1 hh
  unfold ptrV at *
  go_enter Tryz.func60, Tryz.ntmps60
  go_wp2_with fail
  rw [← HW.out]
  refine (HBy.out _).mono ?_
  rintro e w2 ⟨bv, rfl, hs, hb⟩
  obtain ⟨a, ca, rfl, hbi⟩ := slice_bytes hs
  have HB2 := Lib.hid (HB1.out.trans (hb.mono HB1.out.size))
  have HBi := Lib.hid hbi
  have HSb := Lib.hid hs
  clear hs hb hbi
  go_wp2_with fail
  refine (HF.out w2 HB2.out a ca HBi.out).mono ?_
  rintro e w3 ⟨hb3, hcase⟩
  have hno : ¬ ∃ ro t x own v y o s' ab c d K va, (none : Option RT) = some t ∧ WF 16 t ∧ (∀ k, k = p ∨ k ∈ own ∨ ro k → G k) ∧ RT.look t (idBytes ms seq) = some v ∧ Way w2 ro p n t x own (idBytes ms seq) (.mk s' v []) y o s' ab c d K ∧ e = .returned (.tuple #[.pointer (some ⟨y, 0, none⟩), va]) ∧ SliceIs w3 w2.heap.size 86 va ab.length (ab.map ptrV) := by
    rintro ⟨ro, t, x, own, v0, y, o, s', ab, c, d, K, va, h, _⟩
    cases h
  obtain ⟨_, rfl⟩ := hcase.resolve_right hno
  have hb13 := HB2.out.trans (hb3.mono HB2.out.size)
  have hh3 : w3.heap[p]? = some (.cells #[.bool true, .pointer none, .int .i64 n] 94 (0, 0)) := (hb13.block p hplt).trans HH.out
  have d1 := cell_in hh3 (i := 1) rfl
  have d2 := cell_in hh3 (i := 2) rfl
  have f1 := frozen_in hh3 1
  have f2 := frozen_in hh3 2
  have hp3 := heap_lt hh3
  obtain ⟨w4, hw4⟩ : ∃ w4, w4 = w3.setCell ⟨p, 2, none⟩ (.int .i64 ((n : Int) + 1)) := ⟨_, rfl⟩
  have hh4 : w4.heap[p]? = some (.cells #[.bool true, .pointer none, .int .i64 ((n : Int) + 1)] 94 (0, 0)) := by rw [hw4]; exact setCell_head hh3 2 _
  have hc4 : Chg (fun k => k = p) w w4 := (Chg.of_below _ hb13).trans (show Chg (fun k => k = p) w3 w4 by rw [hw4]; exact Chg.setCell _ _ _ _ rfl) fun _ h _ => h
  have hbw4 : w2.heap.size ≤ w4.heap.size ∧ SliceIs w4 w1.heap.size 5 (.slice a 16 ca) 16 ((idBytes ms seq).map u8v) := by
    have h34 : Chg (fun k => k = p) w3 w4 := by rw [hw4]; exact Chg.setCell _ _ _ _ rfl
    refine ⟨Nat.le_trans hb3.size h34.size, (HSb.out.below hb3).chg h34 fun k hk e => ?_⟩
    have := (HSb.out.block_lt hk).1
    have := HB1.out.size
    omega
  have HW4 := Lib.hid hw4
  have HB4 := Lib.hid (And.intro hh4 (And.intro hc4 hbw4))
  have e1 := cell_in hh4 (i := 1) rfl
  have g1 := frozen_in hh4 1
  have hp4 := heap_lt hh4
  clear hh3 hb13 hb3 hno hcase hw4 hh4 hc4 hbw4
  go_wp2_with fail
  rw [← HW4.out]
  clear d1 d2 f1 f2 hp3
  go_loopw [7, 10] (fun bv at_ wr => bv = .slice a 16 ca ∧ at_ = .pointer (some ⟨p, 1, none⟩) ∧ wr = w4) (fun _ _ _ => 0)
  case atStart => exact ⟨rfl, rfl, rfl⟩
  case round =>
    obtain ⟨rfl, rfl, rfl⟩ := hrel
    go_wp2_with fail
    go_ret
    rw [← World.setCell_alloc_past _ _ _ _ hp4]
    exact ⟨rfl, put_first HT.out HB4.out.1 HB4.out.2.1 (idBytes_length ms seq) (Nat.le_trans HB1.out.size (Nat.le_refl _)) HB4.out.2.2.2⟩
end Go.Proofs.YtmaemgihhipllaaGreatDoor.Sad

/- radix: what Put's two ends leave of the tree. -/
namespace Go.Proofs.YtmaemgihhipllaaGreatDoor.Sad
open Go.Proofs.YtmaemgihhipllaaGreatDoor
set_option linter.unusedVariables false
set_option linter.unusedSimpArgs false
open Go.RowKit RT
/-- A leaf that has just been made. -/
theorem leaf_node {w : World} {ro : Nat → Prop} {s : List UInt8} {x : VT} {z : Nat} {a : Option Addr} {c n : Nat} (hn : n = s.length) (h : w.heap[z]? = some (.cells #[.slice a n c, .slice none 0 0, vC x] 89 (0, 0))) (hb : BytesRo w ro a s c) : NodeAt w ro (.mk s x []) z [z] := by
  subst hn
  rw [NodeAt]
  exact ⟨a, c, .slice none 0 0, [], [], h, hb, SliceIs.nil _ _ _, by rw [NodesAt]; exact ⟨rfl, rfl⟩, by simp [vblock]⟩
theorem vb_list {v : Value} {k : Nat} : k ∈ (vblock v).toList ↔ vblock v = some k := by
  cases vblock v <;> simp [eq_comm]
theorem put_at {w0 w w5 w7 : World} {ro : Nat → Prop} {p n : Nat} {t : RT} {x : Nat} {own : List Nat} {s : List UInt8} {b : List UInt8} {v : VT} {k : List RT} {y : Nat} {o : List Nat} {s2 : List UInt8} {ab : List Nat} {c d : Nat} {K : RT → RT}
    {a : Option Addr} {ca : Nat} {kv : Value} {xs rows : List Nat} {G : Nat → Prop} {a2 : Option Addr} {c2 n2 : Nat} {vx : VT} {e : Ending}
    (hway : Way w ro p n t x own s (.mk b v k) y o (b ++ s2) ab c d K) (hp : Parts w ro b v k y a ca kv xs rows) (ho : o = y :: ((vblock kv).toList ++ rows)) (hb5 : Below w.heap.size w w5) (hs2 : s2 ≠ []) (hno : ∀ u ∈ k, u.first ≠ s2.getD 0 0) (hn2 : n2 = s2.length)
    (hbs : BytesRo w ro a2 s2 c2) (hadd : Added (w5.alloc (.cells #[.slice a2 n2 c2, .slice none 0 0, vC vx] 89)) b v k y a ca kv xs (s2.getD 0 0) w5.heap.size e w7)
    (hGp : G p) (hGo : ∀ k ∈ own, G k) (hGr : ∀ k, ro k → (G k ∨ w0.heap.size ≤ k) ∧ k < w.heap.size) (hGl : ∀ k, G k → k < w0.heap.size) (h0 : Chg G w0 w) (hw : WF 16 t) (hs : s.length = 16) :
    ∃ G', TreeF w7 p G' (putO (some t) s vx) n ∧ Fresh w0 G G' ∧ Chg G w0 w7 := by
  obtain ⟨_, r, kv', hP, h7, hs7, hv7, hc67⟩ := hadd
  obtain ⟨w6, hw6⟩ : ∃ w6, w6 = w5.alloc (.cells #[.slice a2 n2 c2, .slice none 0 0, vC vx] 89) := ⟨_, rfl⟩
  rw [← hw6] at hc67 hv7
  have hz6 : w6.heap[w5.heap.size]? = some (.cells #[.slice a2 n2 c2, .slice none 0 0, vC vx] 89 (0, 0)) := by rw [hw6]; exact heap_new _ _
  have hs6 : w6.heap.size = w5.heap.size + 1 := by rw [hw6]; simp
  have hsub := hway.sub
  have hroot := hway.root
  have hlt : ∀ q ∈ o, q < w.heap.size ∧ ¬ ro q := fun q hq => by have := hroot.2.2.2 q (by simp [hsub.1 q hq]); exact ⟨this.2, this.1⟩
  have hyo : y ∈ o := by rw [ho]; simp
  have hkvo : ∀ g, vblock kv = some g → g ∈ o := fun g hg => by rw [ho]; simp [vb_list.2 hg]
  have hS : ∀ q, (q = y ∨ vblock kv = some q) → q ∈ o := fun q hq => hq.elim (fun e => e ▸ hyo) (hkvo q)
  have hsz5 := hb5.size
  have hsz7 := hc67.size
  have hc57 : Chg (fun j => j = y ∨ vblock kv = some j) w w7 := ((Chg.of_below (fun j => j = y ∨ vblock kv = some j) hb5).trans (show Chg (fun j => j = y ∨ vblock kv = some j) w5 w6 by rw [hw6]; exact Chg.alloc _ _ _) fun _ h _ => h).trans hc67 fun _ h _ => h
  have hz7 := hc67.keep hz6 (fun hq => by have := (hlt _ (hS _ hq)).1; omega)
  have hro : ∀ q, ro q → ¬ (q = y ∨ vblock kv = some q) := fun q hq hq' => (hlt q (hS q hq')).2 hq
  have hleaf : NodeAt w7 ro (.mk s2 vx []) w5.heap.size [w5.heap.size] := leaf_node hn2 hz7 (hbs.chg hc57 hro)
  have hnd := hsub.2.1
  rw [ho, List.nodup_cons, List.nodup_append] at hnd
  obtain ⟨n1, n2, n3, n4⟩ := hnd
  simp only [List.mem_append, not_or] at n1
  have hrows : NodesAt w7 ro k xs rows := NodesAt.chg hc57 hro hp.2.2.2 fun q hq hq' => by
    rcases hq' with rfl | hq'
    · exact n1.2 hq
    · exact n4 q (vb_list.2 hq') q hq rfl
  obtain ⟨pre, post, hpp, hins⟩ := NodesAt.ins hleaf hrows r
  have hrl : r ≤ k.length := by have := hP.1; simpa using this
  have hxl : xs.length = k.length := NodesAt.length hp.2.2.2
  have hnode : NodeAt w7 ro (.mk b v (k.take r ++ .mk s2 vx [] :: k.drop r)) y (y :: ((vblock kv').toList ++ (pre ++ ([w5.heap.size] ++ post)))) := by
    rw [NodeAt]
    refine ⟨a, ca, kv', _, _, h7, hp.2.1.chg hc57 hro, ?_, hins, rfl⟩
    have : (k.take r ++ RT.mk s2 vx [] :: k.drop r).length = k.length + 1 := by simp; omega
    rw [this]; exact hs7
  have hput : RT.put t s vx = K (.mk b v (k.take r ++ .mk s2 vx [] :: k.drop r)) := by
    rw [(hway.plain (by rw [hs]; exact hw)).2.2.1, RT.put_append _ _ _ _ _ hs2, RT.putS_ins undef vx hP hno]
  have hWF : WF 16 (K (.mk b v (k.take r ++ .mk s2 vx [] :: k.drop r))) := by rw [← hput]; exact WF_put vx hw hs
  have hcy : c ≠ y := fun e => hsub.2.2.1 (e ▸ hyo)
  have hckv : vblock kv ≠ some c := fun e => hsub.2.2.1 (hkvo c e)
  have hkv' : ∀ g, vblock kv' = some g → g ∈ o ∧ g ∉ rows ∧ g ≠ y ∨ w5.heap.size < g := fun g hg => by
    rcases hv7 with h | ⟨g', h1, h2⟩
    · rw [h] at hg
      exact .inl ⟨hkvo g hg, fun hr => n4 g (vb_list.2 hg) g hr rfl, fun e => n1.1 (vb_list.2 (e ▸ hg))⟩
    · rw [h1] at hg; cases hg
      exact .inr (by omega)
  have hrin : ∀ q ∈ rows, q ∈ o := fun q hq => by rw [ho]; simp [hq]
  have gd1 : (y :: ((vblock kv').toList ++ (pre ++ ([w5.heap.size] ++ post)))).Nodup := by
    rw [hpp, List.nodup_append] at n3
    rw [List.nodup_cons, List.nodup_append, List.nodup_append, List.nodup_append]
    have hz : ∀ q ∈ o, q ≠ w5.heap.size := fun q hq e => by have := (hlt q hq).1; omega
    have hpre : ∀ q ∈ pre, q ∈ rows := fun q hq => by rw [hpp]; simp [hq]
    have hpost : ∀ q ∈ post, q ∈ rows := fun q hq => by rw [hpp]; simp [hq]
    refine ⟨?_, by cases vblock kv' <;> simp, ⟨n3.1, ⟨by simp, n3.2.1, ?_⟩, ?_⟩, ?_⟩
    · simp only [List.mem_append, List.mem_cons, List.not_mem_nil, or_false, vb_list, not_or]
      refine ⟨fun h => ?_, fun h => n1.2 (hpre y h), fun h => hz y hyo h, fun h => n1.2 (hpost y h)⟩
      rcases hkv' y h with h | h
      · exact h.2.2 rfl
      · have := (hlt y hyo).1; omega
    · intro q hq q' hq' e
      simp only [List.mem_cons, List.not_mem_nil, or_false] at hq
      exact hz q' (hrin q' (hpost q' hq')) (by rw [← e, hq])
    · intro q hq q' hq' e
      simp only [List.mem_append, List.mem_cons, List.not_mem_nil, or_false] at hq'
      rcases hq' with rfl | hq'
      · exact hz q (hrin q (hpre q hq)) e
      · exact n3.2.2 q hq q' hq' e
    · intro q hq q' hq' e
      subst e
      rw [vb_list] at hq
      simp only [List.mem_append, List.mem_cons, List.not_mem_nil, or_false] at hq'
      rcases hkv' q hq with h | h
      · rcases hq' with hq' | rfl | hq'
        · exact h.2.1 (hpre q hq')
        · exact hz _ h.1 rfl
        · exact h.2.1 (hpost q hq')
      · rcases hq' with hq' | rfl | hq'
        · have := (hlt q (hrin q (hpre q hq'))).1; omega
        · omega
        · have := (hlt q (hrin q (hpost q hq'))).1; omega
  have gd2 : ∀ q ∈ (y :: ((vblock kv').toList ++ (pre ++ ([w5.heap.size] ++ post)))), (q ∈ o ∨ w.heap.size ≤ q) ∧ q < w7.heap.size := by
    intro q hq
    have old : ∀ q ∈ o, (q ∈ o ∨ w.heap.size ≤ q) ∧ q < w7.heap.size := fun q hq => ⟨.inl hq, by have := (hlt q hq).1; have := hc57.size; omega⟩
    simp only [List.mem_cons, List.mem_append, List.not_mem_nil, or_false, vb_list] at hq
    rcases hq with rfl | hq | hq | rfl | hq
    · exact old _ hyo
    · rcases hkv' q hq with h | h
      · exact old q h.1
      · exact ⟨.inr (by omega), (hs7.block_lt hq).2⟩
    · exact old q (hrin q (by rw [hpp]; simp [hq]))
    · exact ⟨.inr hsz5, by omega⟩
    · exact old q (hrin q (by rw [hpp]; simp [hq]))
  obtain ⟨G', g1, g2, g3⟩ := hway.done (w0 := w0) (G := G) (y' := y) hGp hGo hGr hGl h0 (hc57.mono fun q hq _ => .inl (hS q hq)) (SetAt.same hc57 (by rw [not_or]; exact ⟨hcy, hckv⟩) hway.cell.1) hnode gd1 gd2 hWF
  exact ⟨G', by rw [show putO (some t) s vx = some (K (.mk b v (k.take r ++ .mk s2 vx [] :: k.drop r))) by show some (RT.put t s vx) = _; rw [hput]]; exact g1, g2, g3⟩
theorem BytesRo.cut {w : World} {ro : Nat → Prop} {a : Option Addr} {xs : List UInt8} {cap : Nat} (h : BytesRo w ro a xs cap) (m : Nat) : BytesRo w ro a (xs.take m) m := by
  refine ⟨by rw [List.length_take]; omega, ?_⟩
  rcases h.2 with h0 | ⟨b, o, e, h1, h2, h3⟩
  · exact .inl (by rw [List.length_take]; omega)
  · refine .inr ⟨b, o, e, h1, h2, fun i hi => ?_⟩
    simp only [List.length_take] at hi
    rw [h3 i (by omega)]
    simp [List.getD, List.getElem?_take_of_lt (show i < m by omega)]
theorem BytesRo.rest {w : World} {ro : Nat → Prop} {g q : Nat} {xs : List UInt8} {cap : Nat} (h : BytesRo w ro (some ⟨g, q, none⟩) xs cap) {m : Nat} (hm : m < xs.length) : BytesRo w ro (some ⟨g, q + m, none⟩) (xs.drop m) (cap - m) := by
  have hc := h.1
  obtain ⟨b, o, e, h1, h2, h3⟩ := h.2.resolve_left (by omega)
  cases e
  refine ⟨by simp; omega, .inr ⟨g, q + m, rfl, h1, h2, fun i hi => ?_⟩⟩
  simp only [List.length_drop] at hi
  rw [Nat.add_assoc, h3 (m + i) (by omega)]
  simp [List.getD]
end Go.Proofs.YtmaemgihhipllaaGreatDoor.Sad

/- radix: what Put leaves where two rows of bytes part within a node. -/
namespace Go.Proofs.YtmaemgihhipllaaGreatDoor.Sad
open Go.Proofs.YtmaemgihhipllaaGreatDoor
set_option linter.unusedVariables false
set_option linter.unusedSimpArgs false
open Go.RowKit RT
section
variable {w w5 : World} {ro : Nat → Prop} {p n : Nat} {t : RT} {x : Nat} {own : List Nat} {s : List UInt8} {b : List UInt8} {v : VT} {k : List RT} {y : Nat} {o : List Nat} {s' : List UInt8} {ab : List Nat} {c d : Nat} {K : RT → RT}
    {g q ca : Nat} {kv : Value} {xs rows : List Nat} {m : Nat}
/-- The node that both are below, and the elder node without the bytes that it has. -/
theorem part1 {w6 : World} (hway : Way w ro p n t x own s (.mk b v k) y o s' ab c d K) (hp : Parts w ro b v k y (some ⟨g, q, none⟩) ca kv xs rows) (ho : o = y :: ((vblock kv).toList ++ rows)) (hb5 : Below w.heap.size w w5) (hm : m < b.length)
    (hw6 : w6 = (w5.setCell ⟨y, 0, none⟩ (.slice (some ⟨g, q + m, none⟩) (b.length - m) (ca - m))).alloc (.cells #[.slice (some ⟨g, q, none⟩) m m, .slice none 0 0, vC zT] 89)) :
    Parts w6 ro (b.take m) zT [] w5.heap.size (some ⟨g, q, none⟩) m (.slice none 0 0) [] [] ∧ w6.cell? ⟨y, 0, none⟩ = some (.slice (some ⟨g, q + m, none⟩) (b.length - m) (ca - m)) ∧ w6.cell? ⟨g, q + m, none⟩ = some (.int .u8 (b.getD m 0).toNat) ∧
      NodeAt w6 ro (.mk (b.drop m) v k) y o ∧ Chg (fun j => j = y) w w6 ∧ w6.heap.size = w5.heap.size + 1 := by
  have hsub := hway.sub
  have hyo : y ∈ o := by rw [ho]; simp
  have hroot := hway.root
  have hlt : ∀ q ∈ o, q < w.heap.size ∧ ¬ ro q := fun q hq => by have := hroot.2.2.2 q (by simp [hsub.1 q hq]); exact ⟨this.2, this.1⟩
  have hp5 := hp.below hb5
  obtain ⟨w5', hw5'⟩ : ∃ w5', w5' = w5.setCell ⟨y, 0, none⟩ (.slice (some ⟨g, q + m, none⟩) (b.length - m) (ca - m)) := ⟨_, rfl⟩
  rw [← hw5'] at hw6
  have hy5 : w5'.heap[y]? = some (.cells #[.slice (some ⟨g, q + m, none⟩) (b.length - m) (ca - m), kv, vC v] 89 (0, 0)) := by rw [hw5']; exact setCell_head hp5.1 0 _
  have hsz : w5'.heap.size = w5.heap.size := by rw [hw5']; simp [World.setCell]
  have hy6 : w6.heap[y]? = some (.cells #[.slice (some ⟨g, q + m, none⟩) (b.length - m) (ca - m), kv, vC v] 89 (0, 0)) := by rw [hw6]; exact heap_old hy5 _
  have hY6 : w6.heap[w5.heap.size]? = some (.cells #[.slice (some ⟨g, q, none⟩) m m, .slice none 0 0, vC zT] 89 (0, 0)) := by rw [hw6, ← hsz]; exact heap_new _ _
  have hc5 : Chg (fun j => j = y) w5 w6 := by rw [hw6, hw5']; exact (Chg.setCell (fun j => j = y) _ _ _ rfl).trans (Chg.alloc (fun j => j = y) _ _) fun _ h _ => h
  have hc6 : Chg (fun j => j = y) w w6 := (Chg.of_below _ hb5).trans hc5 fun _ h _ => h
  have hro : ∀ j, ro j → ¬ j = y := fun j hj e => (hlt y hyo).2 (e ▸ hj)
  have hb6 := hp.2.1.chg hc6 hro
  have hnd := hsub.2.1
  rw [ho, List.nodup_cons] at hnd
  simp only [List.mem_append, vb_list, not_or] at hnd
  have hbr := hb6.rest hm
  refine ⟨⟨?_, hb6.cut m, SliceIs.nil _ _ _, by rw [NodesAt]; exact ⟨rfl, rfl⟩⟩, cell_in hy6 (i := 0) rfl, ?_, ?_, hc6, by rw [hw6]; simp [hsz]⟩
  · rw [show (b.take m).length = m by rw [List.length_take]; omega]; exact hY6
  · obtain ⟨g', q', e, _, _, h3⟩ := hb6.2.resolve_left (by omega)
    cases e
    exact h3 m hm
  · rw [NodeAt]
    refine ⟨_, _, kv, xs, rows, by rw [List.length_drop]; exact hy6, hbr, hp.2.2.1.chg hc6 fun j hj e => hnd.1.1 (e ▸ hj), NodesAt.chg hc6 hro hp.2.2.2 fun j hj e => hnd.1.2 (e ▸ hj), ho⟩
/-- .. and the node above both, in the elder one's place. -/
theorem part2 {w6 w7 : World} {e : Ending} (hway : Way w ro p n t x own s (.mk b v k) y o s' ab c d K) (hrl : ∀ j, ro j → j < w.heap.size) (hm : m < b.length) (hb5 : w.heap.size ≤ w5.heap.size)
    (h6 : Parts w6 ro (b.take m) zT [] w5.heap.size (some ⟨g, q, none⟩) m (.slice none 0 0) [] []) (hn6 : NodeAt w6 ro (.mk (b.drop m) v k) y o) (hc6 : Chg (fun j => j = y) w w6) (hs6 : w6.heap.size = w5.heap.size + 1)
    (hadd : Added w6 (b.take m) zT [] w5.heap.size (some ⟨g, q, none⟩) m (.slice none 0 0) [] (b.getD m 0) y e w7) :
    (w7.cell? ⟨c, d, none⟩ = some (ptrV y) ∧ w7.frozen? ⟨c, d, none⟩ = false) ∧ ∃ kv7, Parts (w7.setCell ⟨c, d, none⟩ (ptrV w5.heap.size)) ro (b.take m) zT [.mk (b.drop m) v k] w5.heap.size (some ⟨g, q, none⟩) m kv7 [y] o ∧
      SetAt w (w7.setCell ⟨c, d, none⟩ (ptrV w5.heap.size)) c d (ptrV w5.heap.size) ∧ Chg (fun j => j = y ∨ j = c) w (w7.setCell ⟨c, d, none⟩ (ptrV w5.heap.size)) ∧ (∀ j, vblock kv7 = some j → w5.heap.size < j) := by
  obtain ⟨_, r, kv7, hP, h7, hs7, hv7, hc67⟩ := hadd
  have hr0 : r = 0 := by have := hP.1; simpa using this
  subst hr0
  have hsub := hway.sub
  have hroot := hway.root
  have hyo : y ∈ o := by
    obtain ⟨a, ca, kv, xs, rows, _, ho⟩ := parts_of hn6
    rw [ho]; simp
  have hlt : ∀ q ∈ o, q < w.heap.size ∧ ¬ ro q := fun q hq => by have := hroot.2.2.2 q (by simp [hsub.1 q hq]); exact ⟨this.2, this.1⟩
  have hclt : c < w.heap.size ∧ ¬ ro c := by have := hroot.2.2.2 c hsub.2.2.2; exact ⟨this.2, this.1⟩
  have hc7 : Chg (fun j => j = w5.heap.size) w6 w7 := hc67.mono fun j hj _ => by
    rcases hj with hj | hj
    · exact hj
    · cases hj
  have hcw7 : Chg (fun j => j = y) w w7 := hc6.trans hc7 fun j hj hlt' => by omega
  have hcy : c ≠ y := fun e => hsub.2.2.1 (e ▸ hyo)
  obtain ⟨hcell, cs, E, hdl, ⟨fz, hfz, hh⟩, hv⟩ := hway.cell
  have hh7 : w7.heap[c]? = some (.cells cs E fz) := hcw7.keep hh hcy
  obtain ⟨w8, hw8⟩ : ∃ w8, w8 = w7.setCell ⟨c, d, none⟩ (ptrV w5.heap.size) := ⟨_, rfl⟩
  rw [← hw8]
  have e8 := setCell_eq_setRow w7 c d _ _ _ (ptrV w5.heap.size) hh7
  rw [← hw8] at e8
  have hc78 : Chg (fun j => j = c) w7 w8 := by rw [hw8]; exact Chg.setCell _ _ _ _ rfl
  have hkv7 : ∀ j, vblock kv7 = some j → w5.heap.size < j := fun j hj => by
    rcases hv7 with h | ⟨g', h1, h2⟩
    · rw [h] at hj; cases hj
    · rw [h1] at hj; cases hj; omega
  have hroc : ∀ j, ro j → ¬ j = c := fun j hj e => hclt.2 (e ▸ hj)
  have hroY : ∀ j, ro j → ¬ j = w5.heap.size := fun j hj e => by
    have := hrl j hj; omega
  refine ⟨⟨cell_in hh7 hv, free_at hh7 hfz⟩, kv7, ⟨?_, ?_, ?_, ?_⟩, ?_, (hcw7.mono fun j hj _ => .inl hj).trans (hc78.mono fun j hj _ => .inr hj) fun _ h _ => h, hkv7⟩
  · exact hc78.keep h7 (by omega)
  · exact (h6.2.1.chg hc7 hroY).chg hc78 hroc
  · have := hs7.chg hc78 fun j hj e => by have := hkv7 j hj; omega
    simpa using this
  · rw [NodesAt]
    refine ⟨y, [], o, [], rfl, (hn6.chg hc7 hroY fun j hj e => by have := (hlt j hj).1; omega).chg hc78 hroc fun j hj e => hsub.2.2.1 (e ▸ hj), by rw [NodesAt]; exact ⟨rfl, rfl⟩, by simp⟩
  · intro cs' E' fz' hcs
    rw [hh] at hcs
    cases hcs
    rw [e8]
    exact heap_setRow hh7 _
/-- .. and at last the new leaf. -/
theorem part3 {w0 w8 w9 w11 : World} {Y : Nat} {A : Option Addr} {kv7 : Value} {G : Nat → Prop} {a2 : Option Addr} {c2 n2 : Nat} {vx : VT} {e : Ending}
    (hway : Way w ro p n t x own s (.mk b v k) y o s' ab c d K) (hal : alikeN b s' = m) (hm : m < b.length) (hms : m < s'.length) (h8 : Parts w8 ro (b.take m) zT [.mk (b.drop m) v k] Y A m kv7 [y] o) (hset : SetAt w w8 c d (ptrV Y)) (hc8 : Chg (fun j => j = y ∨ j = c) w w8)
    (hkv7 : ∀ j, vblock kv7 = some j → Y < j) (hY : w.heap.size ≤ Y) (hb9 : Below w8.heap.size w8 w9) (hn2 : n2 = (s'.drop m).length) (hbs : BytesRo w8 ro a2 (s'.drop m) c2)
    (hadd : Added (w9.alloc (.cells #[.slice a2 n2 c2, .slice none 0 0, vC vx] 89)) (b.take m) zT [.mk (b.drop m) v k] Y A m kv7 [y] (s'.getD m 0) w9.heap.size e w11)
    (hGp : G p) (hGo : ∀ k ∈ own, G k) (hGr : ∀ k, ro k → (G k ∨ w0.heap.size ≤ k) ∧ k < w.heap.size) (hGl : ∀ k, G k → k < w0.heap.size) (h0 : Chg G w0 w) (hw : WF 16 t) (hs : s.length = 16) :
    ∃ G', TreeF w11 p G' (putO (some t) s vx) n ∧ Fresh w0 G G' ∧ Chg G w0 w11 := by
  obtain ⟨_, r, kv11, hP, h11, hs11, hv11, hc1011⟩ := hadd
  obtain ⟨w10, hw10⟩ : ∃ w10, w10 = w9.alloc (.cells #[.slice a2 n2 c2, .slice none 0 0, vC vx] 89) := ⟨_, rfl⟩
  rw [← hw10] at hc1011 hv11
  have hsub := hway.sub
  have hroot := hway.root
  have hyo : y ∈ o := by
    obtain ⟨a, ca, kv, xs, rows, _, ho⟩ := parts_of hway.node
    rw [ho]; simp
  have hlt : ∀ q ∈ o, q < w.heap.size ∧ ¬ ro q := fun q hq => by have := hroot.2.2.2 q (by simp [hsub.1 q hq]); exact ⟨this.2, this.1⟩
  have hclt : c < w.heap.size ∧ ¬ ro c := by have := hroot.2.2.2 c hsub.2.2.2; exact ⟨this.2, this.1⟩
  have hz10 : w10.heap[w9.heap.size]? = some (.cells #[.slice a2 n2 c2, .slice none 0 0, vC vx] 89 (0, 0)) := by rw [hw10]; exact heap_new _ _
  have hs10 : w10.heap.size = w9.heap.size + 1 := by rw [hw10]; simp
  have hY8 := heap_lt h8.1
  have hsz9 := hb9.size
  have hsz11 := hc1011.size
  have hc9 : Chg (fun j => j = Y ∨ vblock kv7 = some j) w8 w10 := (Chg.of_below (fun j => j = Y ∨ vblock kv7 = some j) hb9).trans (show Chg (fun j => j = Y ∨ vblock kv7 = some j) w9 w10 by rw [hw10]; exact Chg.alloc _ _ _) fun _ h _ => h
  have hc811 : Chg (fun j => j = Y ∨ vblock kv7 = some j) w8 w11 := hc9.trans hc1011 fun _ h _ => h
  have hkv8 : ∀ j, vblock kv7 = some j → j < w8.heap.size := fun j hj => (h8.2.2.1.block_lt hj).2
  have hS : ∀ j, j = Y ∨ vblock kv7 = some j → w.heap.size ≤ j := fun j hj => by
    rcases hj with rfl | hj
    · exact hY
    · have := hkv7 j hj; omega
  have hc11 : Chg (fun j => j = y ∨ j = c) w w11 := hc8.trans hc811 fun j hj hlt' => by have := hS j hj; omega
  have hroS : ∀ j, ro j → ¬ (j = Y ∨ vblock kv7 = some j) := fun j hj hj' => by have := (hGr j hj).2; have := hS j hj'; omega
  have hz11 := hc1011.keep hz10 (fun hq => by
    rcases hq with hq | hq
    · omega
    · have := hkv8 _ hq; omega)
  have hleaf : NodeAt w11 ro (.mk (s'.drop m) vx []) w9.heap.size [w9.heap.size] := leaf_node hn2 hz11 (hbs.chg hc811 hroS)
  have hoS : ∀ j ∈ o, ¬ (j = Y ∨ vblock kv7 = some j) := fun j hj hj' => by have := (hlt j hj).1; have := hS j hj'; omega
  have hrows : NodesAt w11 ro [.mk (b.drop m) v k] [y] o := NodesAt.chg hc811 hroS h8.2.2.2 hoS
  obtain ⟨pre, post, hpp, hins⟩ := NodesAt.ins hleaf hrows r
  have hrl : r ≤ 1 := by have := hP.1; simpa using this
  have hpart : (RT.mk (b.drop m) v k).first ≠ (s'.drop m).getD 0 0 := by
    show (b.drop m).getD 0 0 ≠ _
    rw [head_drop, head_drop, ← hal]
    exact alike_part (by omega) (by omega)
  have hfd : (s'.drop m).getD 0 0 = s'.getD m 0 := head_drop s' m
  have hput : RT.put t s vx = K (.mk (b.take m) zT ([RT.mk (b.drop m) v k].take r ++ .mk (s'.drop m) vx [] :: [RT.mk (b.drop m) v k].drop r)) := by
    rw [(hway.plain (by rw [hs]; exact hw)).2.2.1, RT.put, if_pos (by omega), hal]
    rw [RT.addK_one (t := RT.mk (b.drop m) v k) (u := RT.mk (s'.drop m) vx []) (r := r) (by rw [show (RT.mk (s'.drop m) vx []).first = s'.getD m 0 from hfd]; exact hP) hpart]
  obtain ⟨K2, hK2⟩ : ∃ K2, K2 = [RT.mk (b.drop m) v k].take r ++ .mk (s'.drop m) vx [] :: [RT.mk (b.drop m) v k].drop r := ⟨_, rfl⟩
  have hl2 : K2.length = 2 := by rw [hK2]; simp; omega
  rw [← hK2] at hput hins
  have hnode : NodeAt w11 ro (.mk (b.take m) zT K2) Y (Y :: ((vblock kv11).toList ++ (pre ++ ([w9.heap.size] ++ post)))) := by
    rw [NodeAt]
    exact ⟨A, m, kv11, _, _, h11, (h8.2.1).chg hc811 hroS, by rw [hl2]; exact hs11, hins, rfl⟩
  have hWF : WF 16 (K (.mk (b.take m) zT K2)) := by rw [← hput]; exact WF_put vx hw hs
  have hset11 : SetAt w w11 c d (ptrV Y) := fun cs E fz hcs => hc811.keep (hset cs E fz hcs) fun hj => by have := hS c hj; omega
  have hkv11 : ∀ j, vblock kv11 = some j → (Y < j ∧ j < w9.heap.size) ∨ w9.heap.size < j := fun j hj => by
    rcases hv11 with h | ⟨g', h1, h2⟩
    · rw [h] at hj
      have := hkv8 j hj
      exact .inl ⟨hkv7 j hj, by omega⟩
    · rw [h1] at hj; cases hj
      exact .inr (by omega)
  have hop : ∀ j, j ∈ pre ∨ j ∈ post → j ∈ o := fun j hj => by rw [hpp]; simpa using hj
  have hnd := hsub.2.1
  rw [hpp, List.nodup_append] at hnd
  have gd1 : (Y :: ((vblock kv11).toList ++ (pre ++ ([w9.heap.size] ++ post)))).Nodup := by
    rw [List.nodup_cons, List.nodup_append, List.nodup_append, List.nodup_append]
    refine ⟨?_, by cases vblock kv11 <;> simp, ⟨hnd.1, ⟨by simp, hnd.2.1, ?_⟩, ?_⟩, ?_⟩
    · simp only [List.mem_append, List.mem_cons, List.not_mem_nil, or_false, vb_list, not_or]
      refine ⟨fun h => ?_, fun h => ?_, by omega, fun h => ?_⟩
      · rcases hkv11 _ h with h | h <;> omega
      · have := (hlt _ (hop _ (.inl h))).1; omega
      · have := (hlt _ (hop _ (.inr h))).1; omega
    · intro q hq q' hq' e
      simp only [List.mem_cons, List.not_mem_nil, or_false] at hq
      have := (hlt _ (hop _ (.inr hq'))).1; omega
    · intro q hq q' hq' e
      simp only [List.mem_append, List.mem_cons, List.not_mem_nil, or_false] at hq'
      rcases hq' with rfl | hq'
      · have := (hlt _ (hop _ (.inl hq))).1; omega
      · exact hnd.2.2 q hq q' hq' e
    · intro q hq q' hq' e
      subst e
      rw [vb_list] at hq
      simp only [List.mem_append, List.mem_cons, List.not_mem_nil, or_false] at hq'
      rcases hkv11 q hq with h | h
      · rcases hq' with hq' | rfl | hq'
        · have := (hlt _ (hop _ (.inl hq'))).1; omega
        · omega
        · have := (hlt _ (hop _ (.inr hq'))).1; omega
      · rcases hq' with hq' | rfl | hq'
        · have := (hlt _ (hop _ (.inl hq'))).1; omega
        · omega
        · have := (hlt _ (hop _ (.inr hq'))).1; omega
  have gd2 : ∀ q ∈ (Y :: ((vblock kv11).toList ++ (pre ++ ([w9.heap.size] ++ post)))), (q ∈ o ∨ w.heap.size ≤ q) ∧ q < w11.heap.size := by
    intro q hq
    simp only [List.mem_cons, List.mem_append, List.not_mem_nil, or_false, vb_list] at hq
    rcases hq with rfl | hq | hq | rfl | hq
    · exact ⟨.inr hY, by omega⟩
    · exact ⟨.inr (by rcases hkv11 q hq with h | h <;> omega), (hs11.block_lt hq).2⟩
    · exact ⟨.inl (hop q (.inl hq)), by have := (hlt _ (hop _ (.inl hq))).1; omega⟩
    · exact ⟨.inr (by omega), by omega⟩
    · exact ⟨.inl (hop q (.inr hq)), by have := (hlt _ (hop _ (.inr hq))).1; omega⟩
  obtain ⟨G', g1, g2, g3⟩ := hway.done (w0 := w0) (G := G) (y' := Y) hGp hGo hGr hGl h0 (hc11.mono fun q hq _ => hq.imp (fun (e : q = y) => e ▸ hyo) id) hset11 hnode gd1 gd2 hWF
  exact ⟨G', by rw [show putO (some t) s vx = some (K (.mk (b.take m) zT K2)) by show some (RT.put t s vx) = _; rw [hput]]; exact g1, g2, g3⟩
end
end Go.Proofs.YtmaemgihhipllaaGreatDoor.Sad

/- radix: Put of what is new. -/
namespace Go.Proofs.YtmaemgihhipllaaGreatDoor.Sad
open Go.Proofs.YtmaemgihhipllaaGreatDoor
set_option linter.unusedVariables false
set_option linter.unusedSimpArgs false
open Go.RowKit RT
/-- How much is left of Put's loop. -/
def measAt (p : Nat) : Value → Value → Nat
  | .slice _ n _, .pointer (some a) => 2 * n + (if a.block = p then 1 else 0)
  | _, _ => 0
theorem Way.top {w : World} {ro : Nat → Prop} {p n : Nat} {t : RT} {x : Nat} {own : List Nat} {s : List UInt8} {u : RT} {y : Nat} {o : List Nat} {s' : List UInt8} {ab : List Nat} {c d : Nat} {K : RT → RT} (h : Way w ro p n t x own s u y o s' ab c d K) (hab : ab = []) : c = p := by
  cases h with
  | here _ => rfl
  | down _ _ _ _ _ => simp at hab
set_option maxHeartbeats 6400000 in
set_option maxRecDepth 100000 in
theorem radPut_new {w : World} {p : Nat} {G : Nat → Prop} {t : RT} {n : Nat} (h : TreeF w p G (some t) n) {ms seq : Nat} (h1 : ms < 18446744073709551616) (h2 : seq < 18446744073709551616) (v : VT) (hn : n ≤ 1000000000) (hl : RT.look t (idBytes ms seq) = none) :
    Calls Tryz.prog 60 #[ptrV p, .agg #[.int .u64 ms, .int .u64 seq], vC v] w fun e w' => e = .returned (.bool true) ∧ ∃ G', TreeF w' p G' (putO (some t) (idBytes ms seq) v) (n + 1) ∧ Fresh w G G' ∧ Chg G w w' := by
  have HF := Lib.hid (fun w' (hb : Below w.heap.size w w') a ca (ha : BytesIn w' a (idBytes ms seq) ca) => radFindF (h.below hb) (idBytes_length ms seq) ha)
  have HBy := Lib.hid (fun w => bytes_any ms seq h1 h2 w)
  obtain ⟨hGl, hwf, ro0, x, own, hroot, hG⟩ := h
  have hplt := heap_lt hroot.1
  have c0 := cell_in hroot.1 (i := 0) rfl
  obtain ⟨w1, hw1⟩ : ∃ w1, w1 = w.alloc (.cells #[.int .u64 ms, .int .u64 seq] 41) := ⟨_, rfl⟩
  have hb1 : Below w.heap.size w w1 := by rw [hw1]; exact (Below.refl _ _).alloc (Nat.le_refl _) _
  have HW := Lib.hid hw1
  have HB1 := Lib.hid hb1
  have HT := Lib.hid (And.intro hGl (And.intro hwf (And.intro hroot (And.intro hG hl))))
  clear hGl hwf hroot hG h1 h2 hw1 hb1 hl
  unfold ptrV
  go_enter Tryz.func60, Tryz.ntmps60
  go_wp2_with fail
  rw [← HW.out]
  refine (HBy.out _).mono ?_
  rintro e w2 ⟨bv, rfl, hs, hb⟩
  obtain ⟨a, ca, rfl, hbi⟩ := slice_bytes hs
  have HB2 := Lib.hid (HB1.out.trans (hb.mono HB1.out.size))
  have HBi := Lib.hid hbi
  have HSb := Lib.hid hs
  clear hs hb hbi
  go_wp2_with fail
  refine (HF.out w2 HB2.out a ca HBi.out).mono ?_
  rintro e w3 ⟨hb3, hcase⟩
  have hlno : lookO (some t) (idBytes ms seq) = none := HT.out.2.2.2.2
  have he : e = .returned (.tuple #[.pointer none, .slice none 0 0]) := by
    rcases hcase with ⟨_, h⟩ | ⟨ro, t', x', own', v', y, o, s', ab, c, d, K, va, hT, _, _, hlk, _⟩
    · exact h
    · cases hT
      rw [HT.out.2.2.2.2] at hlk; cases hlk
  subst he
  have hb13 := HB2.out.trans (hb3.mono HB2.out.size)
  obtain ⟨ro, hro⟩ : ∃ ro : Nat → Prop, ro = fun k => ro0 k ∨ vblock (.slice a 16 ca) = some k := ⟨_, rfl⟩
  obtain ⟨w4, hw4⟩ : ∃ w4, w4 = w3.setCell ⟨p, 2, none⟩ (.int .i64 ((n : Int) + 1)) := ⟨_, rfl⟩
  have h34 : Chg (fun k => k = p) w3 w4 := by rw [hw4]; exact Chg.setCell _ _ _ _ rfl
  have hc4 : Chg (fun k => k = p) w w4 := (Chg.of_below _ hb13).trans h34 fun _ h _ => h
  have hbl : ∀ k, vblock (.slice a 16 ca) = some k → w.heap.size ≤ k ∧ k < w2.heap.size := fun k hk => by have := HSb.out.block_lt hk; have := HB1.out.size; omega
  have hsl4 : SliceIs w4 w1.heap.size 5 (.slice a 16 ca) 16 ((idBytes ms seq).map u8v) := (HSb.out.below hb3).chg h34 fun k hk e => by have := hbl k hk; omega
  have hin : ∀ k, k = p ∨ k ∈ own ∨ ro0 k → G k := HT.out.2.2.2.1
  have hGl : ∀ k, G k → k < w.heap.size := HT.out.1
  have hr0 := HT.out.2.2.1
  have hnp : ∀ k ∈ own, k ≠ p := fun k hk e => (List.nodup_cons.1 hr0.2.2.1).1 (e ▸ hk)
  have hroot4 : RootAt w4 ro p (n + 1) t x own := by
    have hh3 : w3.heap[p]? = some (.cells #[.bool true, ptrV x, .int .i64 n] 94 (0, 0)) := (hb13.block p hplt).trans hr0.1
    refine RootAt.more (ro := ro0) ⟨by rw [hw4]; exact setCell_head hh3 2 _, hr0.2.1.chg hc4 (fun k hk e => (hr0.2.2.2 p (by simp)).1 (e ▸ hk)) hnp, hr0.2.2.1, fun k hk => ⟨(hr0.2.2.2 k hk).1, Nat.lt_of_lt_of_le (hr0.2.2.2 k hk).2 hc4.size⟩⟩ (fun k hk => by rw [hro]; exact .inl hk) fun k hk hk' => ?_
    rw [hro] at hk'
    rcases hk' with hk' | hk'
    · exact (hr0.2.2.2 k hk).1 hk'
    · have := hbl k hk'; have := (hr0.2.2.2 k hk).2; omega
  have hbs4 : BytesRo w4 ro a (idBytes ms seq) ca := by
    have := slice_ro hsl4
    exact ⟨this.1, this.2.imp id fun ⟨b, o, e, q, r⟩ => ⟨b, o, e, by rw [hro]; exact .inr q, r⟩⟩
  have hGr : ∀ k, ro k → (G k ∨ w.heap.size ≤ k) ∧ k < w4.heap.size := fun k hk => by
    rw [hro] at hk
    have := hb3.size
    have := h34.size
    rcases hk with hk | hk
    · have h := hin k (.inr (.inr hk))
      exact ⟨.inl h, by have := hGl k h; have := hc4.size; omega⟩
    · have := hbl k hk
      exact ⟨.inr this.1, by omega⟩
  have HFr := Lib.hid (show G p ∧ (∀ k ∈ own, G k) ∧ (∀ k, ro k → (G k ∨ w.heap.size ≤ k) ∧ k < w4.heap.size) ∧ (∀ k, G k → k < w.heap.size) ∧ Chg G w w4 from
    ⟨hin p (.inl rfl), fun k hk => hin k (.inr (.inl hk)), hGr, hGl, hc4.mono fun k hk _ => hk ▸ hin p (.inl rfl)⟩)
  have hh3 : w3.heap[p]? = some (.cells #[.bool true, ptrV x, .int .i64 n] 94 (0, 0)) := (hb13.block p hplt).trans hr0.1
  have d1 := cell_in hh3 (i := 1) rfl
  have d2 := cell_in hh3 (i := 2) rfl
  have f2 := frozen_in hh3 2
  have hp3 := heap_lt hh3
  have HR4 := Lib.hid hroot4
  have HW4 := Lib.hid hw4
  have HBs := Lib.hid hbs4
  clear hh3 hroot4 hw4 hbs4 hGr hin hGl hr0 hnp hsl4 hbl hc4 h34 hro hb13 hcase hlno hb3
  go_wp2_with fail
  rw [← HW4.out]
  clear d1 d2 f2 hp3
  go_loopw [7, 10] (fun bv at_ wr => ∃ (n2 : Nat) (a2 : Option Addr) (c2 c d : Nat), n2 ≤ 16 ∧ bv = .slice a2 n2 c2 ∧ at_ = .pointer (some ⟨c, d, none⟩) ∧ Hid (∃ s' u y o ab K, s'.length = n2 ∧ s' ≠ [] ∧ Way w4 ro p (n + 1) t x own (idBytes ms seq) u y o s' ab c d K ∧ BytesRo w4 ro a2 s' c2) ∧
    Hid (Below w4.heap.size w4 wr)) (fun bv at_ _ => measAt p bv at_)
  case atStart => exact ⟨16, a, ca, p, 1, by omega, rfl, rfl, Lib.hid ⟨idBytes ms seq, t, x, own, [], id, idBytes_length ms seq, fun e => by have := idBytes_length ms seq; rw [e] at this; simp at this, .here HR4.out, HBs.out⟩, Lib.hid (Below.refl _ _)⟩
  case round =>
    obtain ⟨n2, a2, c2, c, d, hn2, rfl, rfl, hI, hB⟩ := hrel
    obtain ⟨s', ⟨b, vk, k⟩, y, o, ab, K, hs1, hne, hway, hbs⟩ := hI.out
    clear hI c0
    obtain ⟨hwf, hlook, _, _, _, hdep, hemp⟩ := hway.plain (by rw [idBytes_length]; exact HT.out.2.1)
    obtain ⟨k1, k2, k3, k4⟩ := hwf.kids
    obtain ⟨aa, cc, kv, xs, rows, hp, ho⟩ := parts_of hway.node
    have hsub := hway.sub
    have hba := hbs.chg (Chg.of_below (fun _ => False) hB.out) fun _ _ => id
    have hpb := hp.below hB.out
    obtain ⟨ab', ob', rfl, hroab, hablt, hcells⟩ := hba.2.resolve_left (fun h => hne (List.eq_nil_of_length_eq_zero h))
    have HAl := Lib.hid (alike_any hpb.2.1.bytes hba.bytes (by omega) (by omega))
    have hat : wr.cell? ⟨c, d, none⟩ = some (.pointer (some ⟨y, 0, none⟩)) := (hB.out.cell (p := ⟨c, d, none⟩) (World.block_lt_of_cell? w4 _ hway.cell.1)).trans hway.cell.1
    have hlkn : RT.look (.mk b vk k) s' = none := by rw [← hlook]; exact HT.out.2.2.2.2
    have hmlen : b.length ≤ s'.length := k1
    obtain ⟨m1, hm1⟩ : ∃ m1, b.length = m1 := ⟨_, rfl⟩
    rw [hm1, hs1] at HAl
    have hq := hpb.1
    rw [hm1] at hq
    have q0 := cell_in hq (i := 0) rfl
    rcases Nat.lt_or_ge (alikeN b s') b.length with hlt | hge
    · obtain ⟨al, hal⟩ : ∃ al, alikeN b s' = al := ⟨_, rfl⟩
      rw [hal] at HAl
      have hms : al < s'.length := by omega
      have halm : al < m1 := by omega
      obtain ⟨g, q, rfl, hrog, hglt, _⟩ := hp.2.1.2.resolve_left (by omega)
      obtain ⟨ch, hch⟩ : ∃ ch, s'.getD al 0 = ch := ⟨_, rfl⟩
      obtain ⟨n3, hn3⟩ : ∃ n3, n2 - al = n3 := ⟨_, rfl⟩
      have hl2 : n3 = (s'.drop al).length := by rw [List.length_drop]; omega
      have hn0 : 0 < n3 := by omega
      have hcc := hp.2.1.1
      have hc2 := hbs.1
      have hcne : ¬ (cc = al) := by omega
      have hle3 : al ≤ cc := by omega
      have hle4 : m1 ≤ cc := by omega
      have hywr := heap_lt hq
      have hcne2 : ¬ (c2 = al) := by omega
      have hle2 : al < n2 := by omega
      have f0 := frozen_in hq 0
      have hyw := heap_lt hp.1
      obtain ⟨xn, hxn⟩ : ∃ xn, xn = RT.mk (b.drop al) vk k := ⟨_, rfl⟩
      have hxnb : xn.begin ≠ [] := by rw [hxn]; exact cut_head (by omega)
      have hxnf : xn.first ≠ ch := by
        rw [hxn, ← hch, ← hal]
        show (b.drop (alikeN b s')).getD 0 0 ≠ _
        rw [head_drop]
        exact alike_part (by omega) (by omega)
      have hrlt : ∀ j, ro j → j < w4.heap.size := fun j hj => (HFr.out.2.2.1 j hj).2
      have hbs2 : BytesRo w4 ro (some ⟨ab', ob' + al, none⟩) (s'.drop al) (c2 - al) := hbs.rest hms
      have H1 := Lib.hid (fun w5 w6 hb5 hw6 => part1 (w5 := w5) (w6 := w6) hway hp ho hb5 (show al < b.length by omega) hw6)
      have H2 := Lib.hid (fun (w5 w6 w7 : World) e h5 h6 hn6 hc6 hs6 hadd => part2 (w5 := w5) (w6 := w6) (w7 := w7) (e := e) (g := g) (q := q) hway hrlt (show al < b.length by omega) h5 h6 hn6 hc6 hs6 hadd)
      have H3 := Lib.hid (fun (w8 w9 w11 : World) (Y : Nat) (kv7 : Value) e h8 hset hc8 hkv7 hY hb9 hbs' hadd => part3 (w0 := w) (w8 := w8) (w9 := w9) (w11 := w11) (Y := Y) (A := some ⟨g, q, none⟩) (kv7 := kv7) (G := G) (a2 := some ⟨ab', ob' + al, none⟩) (c2 := c2 - al) (n2 := n3) (vx := v) (e := e)
        hway hal (show al < b.length by omega) hms h8 hset hc8 hkv7 hY hb9 hl2 hbs' hadd HFr.out.1 HFr.out.2.1 HFr.out.2.2.1 HFr.out.2.2.2.1 HFr.out.2.2.2.2 HT.out.2.1 (idBytes_length ms seq))
      rw [← hxn, hm1] at H1
      rw [← hxn] at H2 H3
      rw [hch] at H3
      have HX := Lib.hid (And.intro hxnb (And.intro hxnf (And.intro hbs2 (And.intro hch (And.intro hl2 hrlt)))))
      have hoy : y ∈ o := by rw [ho]; simp
      have HCl := Lib.hid (show y < w4.heap.size ∧ c < w4.heap.size ∧ ¬ ro y ∧ ¬ ro c from ⟨hyw, World.block_lt_of_cell? w4 _ hway.cell.1, (hway.root.2.2.2 y (by simp [hsub.1 y hoy])).1, (hway.root.2.2.2 c hsub.2.2.2).1⟩)
      have hbt : (b.take al).length = al := by rw [List.length_take]; omega
      have HBt := Lib.hid hbt
      clear hxnb hxnf hbs2 hch hl2 hrlt hway hp ho hq hcells hbs hdep hemp hs1 hne hm1 hal hba hpb hsub hlkn hwf hlook k1 k2 k3 k4 hlt hxn hcc hc2 hrog hroab hoy hmlen hms hbt
      go_wp2_with fail
      refine HAl.out.mono ?_
      rintro e w5 ⟨rfl, m, hw5⟩
      have HB5 := Lib.hid (show Below w4.heap.size w4 w5 by rw [hw5]; exact belowN hB.out m)
      have q5 : w5.cell? ⟨y, 0, none⟩ = some (.slice (some ⟨g, q, none⟩) m1 cc) := by rw [hw5]; exact q0
      have f5 : w5.frozen? ⟨y, 0, none⟩ = false := by rw [hw5]; exact f0
      have y5 : y < w5.heap.size := by rw [hw5]; exact hywr
      have hab5 : ab' < w5.heap.size := by rw [hw5]; exact hablt
      clear hw5 q0 f0 hat hywr hyw
      obtain ⟨w6, hw6⟩ : ∃ w6, w6 = (w5.setCell ⟨y, 0, none⟩ (.slice (some ⟨g, q + al, none⟩) (m1 - al) (cc - al))).alloc (.cells #[.slice (some ⟨g, q, none⟩) al al, .slice none 0 0, .slice none 0 0] 89) := ⟨_, rfl⟩
      obtain ⟨p6, y0, yc, n6, hc6, hs6⟩ := H1.out w5 w6 HB5.out hw6
      have HW6 := Lib.hid hw6
      have HA1 := Lib.hid (radAdd p6 (by simp [vblock]) (by simp) (by simp) (by simp) y0 (by omega) yc)
      have H6 := Lib.hid (And.intro p6 (And.intro n6 (And.intro hc6 hs6)))
      clear hw6 p6 y0 yc n6 hc6 hs6
      go_wp2_with fail
      rw [← HW6.out]
      refine HA1.out.mono ?_
      rintro e w7 hadd
      obtain ⟨⟨s7, f7⟩, kv7, p8, hset8, hc8, hkv8⟩ := H2.out w5 w6 w7 e HB5.out.size H6.out.1 H6.out.2.1 H6.out.2.2.1 H6.out.2.2.2 hadd
      obtain ⟨rfl, _⟩ := hadd
      obtain ⟨w8, hw8⟩ : ∃ w8, w8 = w7.setCell ⟨c, d, none⟩ (.pointer (some ⟨w5.heap.size, 0, none⟩)) := ⟨_, rfl⟩
      have hw8' : w7.setCell ⟨c, d, none⟩ (ptrV w5.heap.size) = w8 := hw8.symm
      rw [hw8'] at p8 hset8 hc8
      have hbs8 : BytesRo w8 ro (some ⟨ab', ob' + al, none⟩) (s'.drop al) (c2 - al) := HX.out.2.2.1.chg hc8 fun j hj hj' => by
        rcases hj' with rfl | rfl
        · exact HCl.out.2.2.1 hj
        · exact HCl.out.2.2.2 hj
      have hch8 : w8.cell? ⟨ab', ob' + al, none⟩ = some (.int .u8 ch.toNat) := by
        obtain ⟨_, _, e, _, _, hc⟩ := hbs8.2.resolve_left (by have := HX.out.2.2.2.2.1; omega)
        cases e
        have := hc 0 (by have := HX.out.2.2.2.2.1; omega)
        rw [Nat.add_zero, head_drop, HX.out.2.2.2.1] at this
        exact this
      have hroab : ro ab' := by
        obtain ⟨_, _, e, h1, _⟩ := hbs8.2.resolve_left (by have := HX.out.2.2.2.2.1; omega)
        cases e
        exact h1
      have hcab : c ≠ ab' := fun e => HCl.out.2.2.2 (e ▸ hroab)
      have hcab2 : ab' ≠ c := Ne.symm hcab
      have hch7 : w7.cell? ⟨ab', ob' + al, none⟩ = some (.int .u8 ch.toNat) := (World.cell?_of_block (w := w7) (w' := w8) (a := ⟨ab', ob' + al, none⟩) (by rw [hw8]; exact Below.heap_setCell _ _ _ _ hcab2)).symm.trans hch8
      have HW8 := Lib.hid hw8
      have hxs : ∀ u ∈ [xn], u.begin ≠ [] := fun u hu => by simp only [List.mem_singleton] at hu; rw [hu]; exact HX.out.1
      have HSk := Lib.hid (radSeek p8.node hxs (by simp) (by simp) ch)
      have H8 := Lib.hid (And.intro p8 (And.intro hset8 (And.intro hc8 (And.intro hkv8 (And.intro hbs8 (And.intro hxs hch8))))))
      unfold ptrV at s7
      clear hxs p8 hset8 hc8 hkv8 hbs8 hw8 hw8' q5 f5 hroab
      go_wp2_with fail
      rw [← HW8.out]
      refine HSk.out.mono ?_
      rintro e w9 ⟨r, hP, he, hb9⟩
      have hno : ¬ (r < [xn].length ∧ ([xn].map RT.first).getD r 0 = ch) := by
        rintro ⟨h1, h2⟩
        obtain rfl : r = 0 := by simpa using h1
        exact HX.out.2.1 (by simpa using h2)
      rw [decide_eq_false hno] at he
      subst he
      obtain ⟨w10, hw10⟩ : ∃ w10, w10 = w9.alloc (.cells #[.slice (some ⟨ab', ob' + al, none⟩) n3 (c2 - al), .slice none 0 0, vC v] 89) := ⟨_, rfl⟩
      have hz : w10.cell? ⟨w9.heap.size, 0, none⟩ = some (.slice (some ⟨ab', ob' + al, none⟩) n3 (c2 - al)) := by rw [hw10]; exact cell_in (heap_new _ _) rfl
      have hb910 : Below w9.heap.size w9 w10 := by rw [hw10]; exact (Below.refl _ _).alloc (Nat.le_refl _) _
      have hb810 := hb9.trans (hb910.mono hb9.size)
      have hcb10 : w10.cell? ⟨ab', ob' + al, none⟩ = some (.int .u8 ch.toNat) := (hb810.cell (p := ⟨ab', ob' + al, none⟩) (World.block_lt_of_cell? w8 _ hch8)).trans hch8
      have HA2 := Lib.hid (radAdd (H8.out.1.below hb810) (fun e => by have := H8.out.2.2.2.1 _ e; omega) H8.out.2.2.2.2.2.1 (by simp) (by simp) hz hn0 hcb10)
      have HF2 := Lib.hid (fun e w11 => H3.out w8 w9 w11 w5.heap.size kv7 e H8.out.1 H8.out.2.1 H8.out.2.2.1 H8.out.2.2.2.1 HB5.out.size hb9 H8.out.2.2.2.2.1)
      have HW10 := Lib.hid hw10
      clear hz hb910 hb810 hcb10 hw10 hno hP hb9 hch8
      go_wp2_with fail
      rw [← HW10.out]
      refine HA2.out.mono ?_
      rintro e w11 hadd
      have HD := Lib.hid hadd
      obtain ⟨rfl, _⟩ := hadd
      go_wp2_with fail
      go_ret
      exact ⟨rfl, HF2.out _ _ (by rw [← HW10.out]; exact HD.out)⟩
    · have hal : alikeN b s' = b.length := by have := alikeN_le b s'; omega
      have hpre : s'.take b.length = b := alike_full (by omega)
      obtain ⟨s2, hs2⟩ : ∃ s2, s'.drop b.length = s2 := ⟨_, rfl⟩
      have hsp : s' = b ++ s2 := by rw [← hs2]; conv => lhs; rw [← List.take_append_drop b.length s', hpre]
      obtain ⟨n3, hn3⟩ : ∃ n3, n2 - m1 = n3 := ⟨_, rfl⟩
      have hl2 : s2.length = n3 := by rw [← hs2, List.length_drop]; omega
      rw [hal, hm1] at HAl
      have h0 : s2 ≠ [] := fun h0 => by
        rw [hsp, h0, List.append_nil, RT.look, alikeN_self, if_neg (by omega), if_pos (by simp)] at hlkn
        cases hlkn
      have hn0 : 0 < n3 := by rw [← hl2]; exact List.length_pos_iff.2 h0
      obtain ⟨ch, hch⟩ : ∃ ch, s2.getD 0 0 = ch := ⟨_, rfl⟩
      have hcb : wr.cell? ⟨ab', ob' + m1, none⟩ = some (.int .u8 ch.toNat) := by
        rw [hcells m1 (by omega), ← hch, hsp, ← hm1]
        rw [show b.length = b.length + 0 from rfl, getD_back]
      have hwf2 : WFS s2.length k := by rw [hl2, ← hn3, ← hm1, ← hs1]; exact k4
      rw [hsp] at hway
      have hbs2 : BytesRo w4 ro (some ⟨ab', ob' + m1, none⟩) s2 (c2 - m1) := by
        have := hbs.rest (m := m1) (by omega)
        rw [← hm1] at this
        rw [hs2] at this
        rw [← hm1]
        exact this
      have hkid : ∀ r, r < k.length → (k.map RT.first).getD r 0 = ch → ∃ z oi g cap u K', w4.cell? ⟨y, 1, none⟩ = some (.slice (some ⟨g, 0, none⟩) k.length cap) ∧ Way w4 ro p (n + 1) t x own (idBytes ms seq) u z oi s2 (ab ++ [y]) g r K' ∧ g ≠ p := fun r hr hf => by
        obtain ⟨z, oi, g, hk⟩ := kid_of hway.node hr
        obtain ⟨cap, hcap⟩ := hk.slice
        have hd := Way.down (u := k[r]) hway hk (by simp [hr]) h0 (by rw [hch, ← hf]; simp [List.getD, hr])
        refine ⟨z, oi, g, cap, k[r], _, hcap, hd, ?_⟩
        obtain ⟨_, _, kv', _, _, _, _, _, _, hg, _, _, hoo, _⟩ := hk
        have hgo : g ∈ o := by rw [hoo, hg]; simp
        intro e
        have := hway.root.2.2.1
        rw [List.nodup_cons] at this
        exact this.1 (e ▸ hsub.1 g hgo)
      have hseek := fun w' (hb' : Below w4.heap.size w4 w') => radSeek (hway.node.chg (Chg.of_below (fun _ => False) hb') (fun _ _ => id) fun _ _ => id) (fun u hu => (hwf2.mem u hu).1) hwf2.rise (by have := hwf2.few; omega) ch
      have HSk := Lib.hid hseek
      have HKid := Lib.hid hkid
      have e3 : ((n3 : Int) == 0) = false := by simp; omega
      have hle : m1 < n2 := by omega
      have hc2 := hbs.1
      have hcne : ¬ (c2 = m1) := by omega
      have hyw := heap_lt hp.1
      have hfin : ∀ r w5 e w7, Below w4.heap.size w4 w5 → PlaceB (k.map RT.first) ch r → ¬ (r < k.length ∧ (k.map RT.first).getD r 0 = ch) → Added (w5.alloc (.cells #[.slice (some ⟨ab', ob' + m1, none⟩) n3 (c2 - m1), .slice none 0 0, vC v] 89)) b vk k y aa cc kv xs ch w5.heap.size e w7 →
          ∃ G', TreeF w7 p G' (putO (some t) (idBytes ms seq) v) (n + 1) ∧ Fresh w G G' ∧ Chg G w w7 := fun r w5 e w7 hb5 hP hno hadd =>
        put_at hway hp ho hb5 h0 (fun u hu => by rw [hch]; exact place_no hP hwf2.rise (by simpa using hno) _ (List.mem_map.2 ⟨u, hu, rfl⟩)) hl2.symm hbs2 (by rw [hch]; exact hadd) HFr.out.1 HFr.out.2.1 HFr.out.2.2.1 HFr.out.2.2.2.1 HFr.out.2.2.2.2 HT.out.2.1 (idBytes_length ms seq)
      have HFin := Lib.hid hfin
      have hkvy : vblock kv ≠ some y := fun e => by
        have := hsub.2.1
        rw [ho, e] at this; simp at this
      have HAdd := Lib.hid (fun w6 (hb6 : Below w4.heap.size w4 w6) {z q p' m cm : Nat} (hy : w6.cell? ⟨z, 0, none⟩ = some (.slice (some ⟨q, p', none⟩) m cm)) (hm : 0 < m) (hc : w6.cell? ⟨q, p', none⟩ = some (.int .u8 ch.toNat)) =>
        radAdd (hp.below hb6) hkvy (fun u hu => (hwf2.mem u hu).1) hwf2.rise (by have := hwf2.few; omega) hy hm hc)
      have HN3 := Lib.hid (show n3 ≤ 16 ∧ (c = p → n3 ≤ n2) ∧ (c ≠ p → n3 < n2) from ⟨by omega, fun _ => by omega, fun hcp => by
        rcases hemp with h | h
        · exact absurd (hway.top h) hcp
        · have : 0 < b.length := List.length_pos_iff.2 h
          omega⟩)
      have HBs2 := Lib.hid (And.intro hbs2 (And.intro hl2 h0))
      clear hfin hseek hkid hwf2 hbs2 hl2 hlook hwf k1 k2 k3 k4 hp ho hq hcells hway hbs hdep hemp hs1 hne hm1 hal hmlen hba hpb hs2 hsp hpre hge h0 hkvy hsub hlkn hch hroab
      go_wp2_with fail
      refine HAl.out.mono ?_
      rintro e w' ⟨rfl, m, rfl⟩
      go_wp2_with fail
      refine (HSk.out (wr.drewN m) (belowN hB.out m)).mono ?_
      rintro e w5 ⟨r, hP, he, hb5⟩
      have hb45 := (belowN hB.out m).trans (hb5.mono hB.out.size)
      have HB5 := Lib.hid hb45
      rcases Decidable.em (r < k.length ∧ (k.map RT.first).getD r 0 = ch) with hok | hok
      · rw [decide_eq_true hok] at he
        subst he
        obtain ⟨z, oi, g, cap, u, K', hy1, hway, hgp⟩ := HKid.out r hok.1 hok.2
        have y1 : w5.cell? ⟨y, 1, none⟩ = some (.slice (some ⟨g, 0, none⟩) k.length cap) := (hb45.cell (p := ⟨y, 1, none⟩) hyw).trans hy1
        have hrk := hok.1
        have HN : Hid (∃ s' u y o ab K, s'.length = n3 ∧ s' ≠ [] ∧ Way w4 ro p (n + 1) t x own (idBytes ms seq) u y o s' ab g r K ∧ BytesRo w4 ro (some ⟨ab', ob' + m1, none⟩) s' (c2 - m1)) :=
          Lib.hid ⟨s2, u, z, oi, ab ++ [y], _, HBs2.out.2.1, HBs2.out.2.2, hway, HBs2.out.1⟩
        have HGp := Lib.hid hgp
        clear hok hway hb45 hb5 hP hcb hy1 hgp hat q0
        go_wp2_with fail
        go_roundw
        case rel => exact ⟨n3, some ⟨ab', ob' + m1, none⟩, c2 - m1, g, r, HN3.out.1, rfl, rfl, HN, HB5⟩
        case measure =>
          have h1 := HN3.out.2
          simp only [measAt, if_neg HGp.out]
          by_cases hcp : c = p
          · rw [if_pos hcp]; have := h1.1 hcp; omega
          · rw [if_neg hcp]; have := h1.2 hcp; omega
      · rw [decide_eq_false hok] at he
        subst he
        obtain ⟨w6, hw6⟩ : ∃ w6, w6 = w5.alloc (.cells #[.slice (some ⟨ab', ob' + m1, none⟩) n3 (c2 - m1), .slice none 0 0, vC v] 89) := ⟨_, rfl⟩
        have hz : w6.cell? ⟨w5.heap.size, 0, none⟩ = some (.slice (some ⟨ab', ob' + m1, none⟩) n3 (c2 - m1)) := by rw [hw6]; exact cell_in (heap_new _ _) rfl
        have hb56 : Below w5.heap.size w5 w6 := by rw [hw6]; exact (Below.refl _ _).alloc (Nat.le_refl _) _
        have hcb5 : w5.cell? ⟨ab', ob' + m1, none⟩ = some (.int .u8 ch.toNat) := (hb5.cell (p := ⟨ab', ob' + m1, none⟩) hablt).trans hcb
        have hcb6 : w6.cell? ⟨ab', ob' + m1, none⟩ = some (.int .u8 ch.toNat) := (hb56.cell (p := ⟨ab', ob' + m1, none⟩) (World.block_lt_of_cell? w5 _ hcb5)).trans hcb5
        have HA6 := Lib.hid (HAdd.out w6 (hb45.trans (hb56.mono hb45.size)) hz hn0 hcb6)
        have HF6 := Lib.hid (fun e w7 => HFin.out r w5 e w7 hb45 hP hok)
        have HW6 := Lib.hid hw6
        clear hz hb56 hcb5 hcb6 hw6 hok hP hb45 hb5 hcb hat q0
        go_wp2_with fail
        rw [← HW6.out]
        refine HA6.out.mono ?_
        rintro e w7 hadd
        have HD := Lib.hid hadd
        obtain ⟨rfl, _⟩ := hadd
        go_wp2_with fail
        go_ret
        exact ⟨rfl, HF6.out _ _ (by rw [← HW6.out]; exact HD.out)⟩
end Go.Proofs.YtmaemgihhipllaaGreatDoor.Sad

/- radix: Put; what a deletion leaves. -/
namespace Go.Proofs.YtmaemgihhipllaaGreatDoor.Sad
open Go.Proofs.YtmaemgihhipllaaGreatDoor
set_option linter.unusedVariables false
set_option linter.unusedSimpArgs false
open Go.RowKit RT
theorem radPut {w : World} {p : Nat} {G : Nat → Prop} {T : Option RT} {n : Nat} (h : TreeF w p G T n) {ms seq : Nat} (h1 : ms < 18446744073709551616) (h2 : seq < 18446744073709551616) (v : VT) (hn : n ≤ 1000000000) :
    Calls Tryz.prog 60 #[ptrV p, .agg #[.int .u64 ms, .int .u64 seq], vC v] w fun e w' => e = .returned (.bool (lookO T (idBytes ms seq)).isNone) ∧
      ∃ G', TreeF w' p G' (putO T (idBytes ms seq) v) (if (lookO T (idBytes ms seq)).isNone then n + 1 else n) ∧ Fresh w G G' ∧ Chg G w w' := by
  cases hl : lookO T (idBytes ms seq) with
  | some v0 => exact radPut_old h h1 h2 v (by rw [hl]; simp)
  | none =>
    cases T with
    | none => exact radPut_first h h1 h2 v hn
    | some t => exact radPut_new h h1 h2 v hn hl
theorem Way.up {w : World} {ro : Nat → Prop} {p n : Nat} {t : RT} {x : Nat} {own : List Nat} {s : List UInt8} {u : RT} {z : Nat} {oz : List Nat} {s' : List UInt8} {ab : List Nat} {c d : Nat} {K : RT → RT} (h : Way w ro p n t x own s u z oz s' ab c d K) (hab : ab ≠ []) :
    ∃ b v k y o ab' c' d' K', Way w ro p n t x own s (.mk b v k) y o (b ++ s') ab' c' d' K' ∧ KidAt w ro b v k y o d z oz c ∧ k[d]? = some u ∧ s' ≠ [] ∧ u.first = s'.getD 0 0 ∧ ab = ab' ++ [y] := by
  cases h with
  | here _ => exact absurd rfl hab
  | down h hk hu hs hf => exact ⟨_, _, _, _, _, _, _, _, _, h, hk, hu, hs, hf, rfl⟩
theorem Way.roots {w : World} {ro : Nat → Prop} {p n : Nat} {t : RT} {x : Nat} {own : List Nat} {s : List UInt8} {u : RT} {z : Nat} {oz : List Nat} {s' : List UInt8} {ab : List Nat} {c d : Nat} {K : RT → RT} (h : Way w ro p n t x own s u z oz s' ab c d K) (hab : ab = []) : u = t := by
  cases h with
  | here _ => rfl
  | down _ _ _ _ _ => simp at hab
theorem place_at {fs : List UInt8} {c : UInt8} {r i : Nat} (h : PlaceB fs c r) (hr : fs.Pairwise (· < ·)) (hi : i < fs.length) (hc : fs.getD i 0 = c) : r = i := by
  have hg : ∀ j (hj : j < fs.length), fs.getD j 0 = fs[j] := fun j hj => by simp [List.getD, hj]
  rcases Nat.lt_trichotomy r i with h1 | h1 | h1
  · have h2 := h.2.2 r (Nat.le_refl _) (by omega)
    have h3 := List.pairwise_iff_getElem.1 hr r i (by omega) hi h1
    rw [hg r (by omega), ← hc, hg i hi, UInt8.le_iff_toNat_le] at h2
    rw [UInt8.lt_iff_toNat_lt] at h3
    omega
  · exact h1
  · have h2 := h.2.1 i h1
    rw [hc, UInt8.lt_iff_toNat_lt] at h2
    omega
/-- A row that is taken apart at one of its places. -/
theorem run_erase {w : World} {e : TypeId} {g n cap i : Nat} {xs : List Value} {t ty : TypeId} {i0 : TypeInfo} {z : Value} {bytes : Nat} (ht : Tryz.prog.underlying t = some (.slice e)) (hi : Tryz.prog.info? e = some i0) (hz : i0.zero = some z)
    (hsize : i0.size = 1) (hby : i0.bytes = bytes) (hzs : z.cells.size = 1) (h : SliceIs w 0 e (.slice (some ⟨g, 0, none⟩) n cap) n xs) (hin : i < n) (h1 : ∀ u ∈ xs, u.oneCell' = true) (hn : n ≤ 100000000) (hb : bytes ≤ 1000) :
    ∃ v' w', (Builtin.append_ #[t, t] ty #[.slice (some ⟨g, 0, none⟩) i cap, .slice (if cap = i + 1 then some ⟨g, 0, none⟩ else some ⟨g, i + 1, none⟩) (n - (i + 1)) (cap - (i + 1))]).run Tryz.prog w = .ok v' w' ∧
      SliceIs w' 0 e v' (n - 1) (xs.eraseIdx i) ∧ Chg (fun k => k = g) w w' ∧ (vblock v' = some g ∨ ∃ k, vblock v' = some k ∧ w.heap.size ≤ k) := by
  obtain ⟨hxl, hx⟩ := h
  obtain ⟨g', cap', cur, he, _, hrow, hcs, hnc, hcm, htk⟩ := hx.resolve_left (by simp)
  cases he
  have hnews : ∀ (A : Addr), A = ⟨g, i + 1, none⟩ → ∀ j u, (xs.drop (i + 1))[j]? = some u → w.cell? (A.add j) = some u := by
    rintro A rfl j u hu
    rw [Addr.add_lit]
    refine hrow.cell ?_
    rw [List.getElem?_drop] at hu
    have hjl : i + 1 + j < n := by have := (List.getElem?_eq_some_iff.1 hu).1; omega
    rw [← Array.getElem?_toList]
    have e := congrArg (fun l => l[i + 1 + j]?) htk
    simp only [List.getElem?_take_of_lt hjl] at e
    rw [e]; exact hu
  have hbb : (i + (n - (i + 1))) * bytes ≤ 140737488355328 := by
    have := Nat.mul_le_mul (show i + (n - (i + 1)) ≤ 100000000 by omega) hb
    omega
  have fin : ∀ A news, news = xs.drop (i + 1) → (∀ j u, news[j]? = some u → w.cell? (A.add j) = some u) → ∃ v' w', (Builtin.append_ #[t, t] ty #[.slice (some ⟨g, 0, none⟩) i cap, .slice (some A) (n - (i + 1)) (cap - (i + 1))]).run Tryz.prog w = .ok v' w' ∧
      SliceIs w' 0 e v' (n - 1) (xs.eraseIdx i) ∧ Chg (fun k => k = g) w w' ∧ (vblock v' = some g ∨ ∃ k, vblock v' = some k ∧ w.heap.size ≤ k) := by
    intro A news hnw hcl
    obtain ⟨v', w', hr, g', cap', cur', rfl, q1, q2, q3, q4, q5, q6, q7⟩ := run_append_row (P := Tryz.prog) w t ty e i0 z 1 bytes ht hi hz hsize hby hzs g i cap cur hrow (by omega) (by omega) hcm A (n - (i + 1)) (cap - (i + 1)) news (by rw [hnw, List.length_drop]; omega) hcl (fun u hu => h1 u (List.mem_of_mem_drop (by rw [← hnw]; exact hu))) (by unfold maxLen; omega) hbb
    have en : i + (n - (i + 1)) = n - 1 := by omega
    refine ⟨_, w', hr, ⟨by rw [List.length_eraseIdx, if_pos (by omega), hxl], .inr ⟨g', cap', cur', by rw [en], Nat.zero_le _, q1, by omega, by omega, q4, ?_⟩⟩, q7.mono fun k hk _ => by simpa using hk, q6.imp id fun h => ⟨g', rfl, h⟩⟩
    rw [en, Nat.mul_one, Nat.mul_one] at q5
    rw [q5, hnw, List.eraseIdx_eq_take_drop_succ, ← htk, List.take_take, Nat.min_eq_left (by omega)]
  split
  · have hd : xs.drop (i + 1) = [] := List.eq_nil_of_length_eq_zero (by rw [List.length_drop]; omega)
    exact fin _ [] hd.symm (by simp)
  · exact fin _ _ rfl (hnews _ rfl)
theorem below_of_chg {w w' : World} {S : Nat → Prop} (h : Chg S w w') (hs : ∀ k, ¬ S k) : Below w.heap.size w w' := belowChg (Below.refl _ _) h (Nat.le_refl _) fun k hk => absurd hk (hs k)
/-- Bytes behind bytes that have no room. -/
theorem run_append_fresh {w : World} {a a2 : Option Addr} {xs ys : List UInt8} {n m c c2 : Nat} (hx : BytesIn w a xs c) (hy : BytesIn w a2 ys c2) (hn : xs.length = n) (hm : ys.length = m) (h0 : 0 < m) (hle : n + m ≤ 100000000) :
    ∃ v' w', (Builtin.append_ #[82, 82] 82 #[.slice a n n, .slice a2 m c2]).run Tryz.prog w = .ok v' w' ∧ SliceIs w' w.heap.size 5 v' (n + m) ((xs ++ ys).map u8v) ∧ Below w.heap.size w w' := by
  obtain ⟨i0, g1, g2, g3, g4⟩ := info_parts info_u8
  obtain ⟨b2, o2, rfl, hc2⟩ := hy.2.resolve_left (by omega)
  have hnews : ∀ j u, (ys.map u8v)[j]? = some u → w.cell? ((⟨b2, o2, none⟩ : Addr).add j) = some u := fun j u hu => by
    rw [List.getElem?_map] at hu
    have hj : j < ys.length := by
      rcases Nat.lt_or_ge j ys.length with h | h
      · exact h
      · rw [List.getElem?_eq_none h] at hu; cases hu
    rw [Addr.add_lit, hc2 j hj]
    rw [List.getElem?_eq_getElem hj] at hu
    simp only [Option.map_some] at hu
    rw [← hu]; simp [List.getD, hj]
  have fin : ∀ (cap : Nat) v' w', Appended w 5 1 none (xs.map u8v) (ys.map u8v) (n + m) v' w' → SliceIs w' w.heap.size 5 v' (n + m) ((xs ++ ys).map u8v) ∧ Below w.heap.size w w' := by
    rintro _ v' w' ⟨g', cap', cur', rfl, q1, q2, q3, q4, q5, q6, q7⟩
    refine ⟨⟨by simp; omega, .inr ⟨g', cap', cur', rfl, ?_, q1, by omega, q3, q4, ?_⟩⟩, below_of_chg q7 fun k hk => by cases hk⟩
    · rcases q6 with h | h
      · cases h
      · exact h
    · rw [List.map_append, ← q5, Nat.mul_one]
  cases a with
  | none =>
    have hn0 : n = 0 := by
      rcases hx.2 with h | ⟨_, _, h, _⟩
      · omega
      · cases h
    subst hn0
    have hx0 : xs = [] := List.eq_nil_of_length_eq_zero hn
    have hr := run_append_nil (P := Tryz.prog) w 82 82 5 i0 (.int .u8 0) Tryz.underlying82 g1 g2 ⟨b2, o2, none⟩ m c2 (ys.map u8v) (by simp [hm, g3]) hnews h0 (by omega) (by rw [g4]; omega)
    have := append_grown w none 5 1 (.int .u8 0) rfl [] (ys.map u8v) m 0 (by simp [hm]) (by unfold maxLen; omega)
    simp only [List.append_nil, List.nil_append, Array.empty_append] at this
    refine ⟨_, _, hr, fin 0 _ _ ?_⟩
    rw [hx0, Nat.zero_add]; exact this
  | some A =>
    have holds : ∀ j u, (xs.map u8v)[j]? = some u → w.cell? (A.add j) = some u := fun j u hu => by
      rw [List.getElem?_map] at hu
      have hj : j < xs.length := by
        rcases Nat.lt_or_ge j xs.length with h | h
        · exact h
        · rw [List.getElem?_eq_none h] at hu; cases hu
      obtain ⟨b1, o1, e, hc1⟩ := hx.2.resolve_left (by omega)
      cases e
      rw [Addr.add_lit, hc1 j hj]
      rw [List.getElem?_eq_getElem hj] at hu
      simp only [Option.map_some] at hu
      rw [← hu]; simp [List.getD, hj]
    have hfits : Builtin.nextslicecap (n + m) n * i0.bytes ≤ 281474976710656 := growslice_fits (by omega) (by rw [g4]; omega)
    have hr := run_append_grow (P := Tryz.prog) w 82 82 5 i0 (.int .u8 0) Tryz.underlying82 g1 g2 A n n (xs.map u8v) (by simp [hn, g3]) holds ⟨b2, o2, none⟩ m c2 (ys.map u8v) (by simp [hm, g3]) hnews (by omega) (by omega) hfits
    have := append_grown w none 5 1 (.int .u8 0) rfl (xs.map u8v) (ys.map u8v) (n + m) n (by simp [hm, hn]) (by unfold maxLen; omega)
    exact ⟨_, _, hr, fin 0 _ _ this⟩
end Go.Proofs.YtmaemgihhipllaaGreatDoor.Sad

/- radix: what a deletion leaves. -/
namespace Go.Proofs.YtmaemgihhipllaaGreatDoor.Sad
open Go.Proofs.YtmaemgihhipllaaGreatDoor
set_option linter.unusedVariables false
set_option linter.unusedSimpArgs false
open Go.RowKit RT
theorem map_eraseIdx {α β : Type} (f : α → β) : ∀ (l : List α) (i : Nat), (l.map f).eraseIdx i = (l.eraseIdx i).map f
  | [], _ => by simp
  | x :: l, 0 => rfl
  | x :: l, i + 1 => by simp [map_eraseIdx f l i]
theorem KidAt.chg {w w' : World} {ro : Nat → Prop} {b : List UInt8} {v : VT} {k : List RT} {y : Nat} {o : List Nat} {i z : Nat} {oi : List Nat} {g p : Nat} (h : KidAt w ro b v k y o i z oi g) (hc : Chg (fun j => j = p) w w') (hr : ¬ ro p) (ho : p ∉ o) : KidAt w' ro b v k y o i z oi g := by
  obtain ⟨a, ca, kv, xs, pre, post, h1, h2, h3, h4, h5, h6, h7, h8, h9, h10⟩ := h
  have hro : ∀ j, ro j → ¬ j = p := fun j hj e => hr (e ▸ hj)
  rw [h7, List.mem_cons, List.mem_append, vb_list] at ho
  simp only [not_or] at ho
  have hm : ∀ j ∈ pre ++ (oi ++ post), ¬ j = p := fun j hj e => ho.2.2 (e ▸ hj)
  refine ⟨a, ca, kv, xs, pre, post, hc.keep h1 (fun e => ho.1 e.symm), h2.chg hc hro, h3.chg hc fun g hg e => ho.2.1 (e ▸ hg), h4, h5, h6, h7, NodesAt.chg hc hro h8 hm, fun hi => NodeAt.chg hc hro (h9 hi) fun j hj => hm j (by simp [hj]), ?_⟩
  intro S ro' w'' u' y' oi' hc' hS hr' hn
  refine h10 (fun j => S j ∨ j = p) ro' w'' u' y' oi' ((hc.mono fun j hj _ => .inr hj).trans hc' fun j hj _ => .inl hj) (fun j hj hj' => ?_) (fun j hj => ⟨(hr' j hj).1, fun hj' => ?_⟩) hn
  · rcases hj' with hj' | rfl
    · exact hS j hj hj'
    · exact hm j (by rcases List.mem_append.1 hj with h | h <;> simp [h]) rfl
  · rcases hj' with hj' | rfl
    · exact (hr' j hj).2 hj'
    · exact hr hj
/-- The tree's count has turned. -/
theorem Way.count {w w' : World} {ro : Nat → Prop} {p n n' : Nat} {t : RT} {x : Nat} {own : List Nat} {s : List UInt8} {u : RT} {y : Nat} {o : List Nat} {s' : List UInt8} {ab : List Nat} {c d : Nat} {K : RT → RT}
    (h : Way w ro p n t x own s u y o s' ab c d K) (hr : RootAt w' ro p n' t x own) (hc : Chg (fun j => j = p) w w') : Way w' ro p n' t x own s u y o s' ab c d K := by
  induction h with
  | here _ => exact .here hr
  | down h hk hu hs hf ih =>
    refine .down ih (hk.chg hc (hr.2.2.2 p (by simp)).1 fun hp => ?_) hu hs hf
    exact (List.nodup_cons.1 hr.2.2.1).1 (h.sub.1 p hp)
theorem Way.done2 {w : World} {ro ro' : Nat → Prop} {p n : Nat} {t : RT} {x : Nat} {own : List Nat} {s : List UInt8} {u : RT} {y : Nat} {o : List Nat} {s' : List UInt8} {ab : List Nat} {c d : Nat} {K : RT → RT}
    (h : Way w ro p n t x own s u y o s' ab c d K) {w0 w' : World} {G : Nat → Prop} {u' : RT} {y' : Nat} {o' : List Nat} (hGp : G p) (hGo : ∀ k ∈ own, G k) (hGr : ∀ k, ro' k → (G k ∨ w0.heap.size ≤ k) ∧ k < w'.heap.size) (hGl : ∀ k, G k → k < w0.heap.size) (h0 : Chg G w0 w)
    (hr : ∀ k, ro k → ro' k) (hr' : ∀ k, ro' k → ro k ∨ w.heap.size ≤ k)
    (hc : Chg (fun k => k ∈ o ∨ k = c) w w') (hs : SetAt w w' c d (ptrV y')) (hn : NodeAt w' ro' u' y' o') (hd : o'.Nodup) (ho : ∀ k ∈ o', (k ∈ o ∨ w.heap.size ≤ k) ∧ ¬ ro' k ∧ k < w'.heap.size) (hw : WF 16 (K u')) :
    ∃ G', TreeF w' p G' (some (K u')) n ∧ Fresh w0 G G' ∧ Chg G w0 w' := by
  have hsub := h.sub
  have hroot := h.root
  obtain ⟨x', own', h1, h2⟩ := h.back hc hs hn hr hr' hd ho
  have hsz := h0.size
  refine ⟨fun k => (G k ∨ w0.heap.size ≤ k) ∧ k < w'.heap.size, ⟨fun k hk => hk.2, hw, ro', x', own', h1, ?_⟩, fun k hk => hk.1, h0.trans hc ?_⟩
  · rintro k (rfl | hk | hk)
    · exact ⟨.inl hGp, (h1.2.2.2 k (by simp)).2⟩
    · refine ⟨?_, (h1.2.2.2 k (by simp [hk])).2⟩
      rcases h2 k hk with hk | hk
      · exact .inl (hGo k hk)
      · exact .inr (by omega)
    · exact hGr k hk
  · rintro k (hk | rfl) _
    · exact hGo k (hsub.1 k hk)
    · rcases List.mem_cons.1 hsub.2.2.2 with rfl | hk
      · exact hGp
      · exact hGo k hk
theorem NodesAt.erase {w : World} {ro : Nat → Prop} : ∀ {l : List RT} {xs own : List Nat}, NodesAt w ro l xs own → ∀ i, i < l.length → ∃ pre oi post, own = pre ++ (oi ++ post) ∧ NodesAt w ro (l.eraseIdx i) (xs.eraseIdx i) (pre ++ post)
  | [], xs, own, h, i, hi => by simp at hi
  | t :: l, xs, own, h, i, hi => by
    rw [NodesAt] at h
    obtain ⟨x, ys, o1, o2, rfl, h2, h3, rfl⟩ := h
    cases i with
    | zero => exact ⟨[], o1, o2, rfl, h3⟩
    | succ i =>
      obtain ⟨pre, oi, post, rfl, h4⟩ := NodesAt.erase h3 i (by simpa using hi)
      refine ⟨o1 ++ pre, oi, post, by simp, ?_⟩
      simp only [List.eraseIdx_cons_succ]
      rw [NodesAt]
      exact ⟨x, _, o1, pre ++ post, rfl, h2, h4, by simp⟩
section
variable {w0 w w7 : World} {ro : Nat → Prop} {p n : Nat} {t : RT} {x : Nat} {own : List Nat} {s : List UInt8} {b : List UInt8} {vk : VT} {k : List RT} {y : Nat} {o : List Nat} {s2 : List UInt8} {ab : List Nat} {c d : Nat} {K : RT → RT}
    {a : Option Addr} {ca : Nat} {kv : Value} {xs rows : List Nat} {G : Nat → Prop} {i : Nat} {kv' : Value}
/-- Where three and more were below. -/
theorem del_at (hway : Way w ro p n t x own s (.mk b vk k) y o (b ++ s2) ab c d K) (hp : Parts w ro b vk k y a ca kv xs rows) (ho : o = y :: ((vblock kv).toList ++ rows)) (hi : i < k.length)
    (h7 : w7.heap[y]? = some (.cells #[.slice a b.length ca, kv', vC vk] 89 (0, 0))) (hs7 : SliceIs w7 0 86 kv' (k.length - 1) ((xs.map ptrV).eraseIdx i))
    (hkv' : vblock kv' = vblock kv ∨ ∃ g, vblock kv' = some g ∧ w.heap.size ≤ g) (hc : Chg (fun j => j = y ∨ vblock kv = some j) w w7)
    (hGp : G p) (hGo : ∀ k ∈ own, G k) (hGr : ∀ k, ro k → (G k ∨ w0.heap.size ≤ k) ∧ k < w.heap.size) (hGl : ∀ k, G k → k < w0.heap.size) (h0 : Chg G w0 w) (hw : WF 16 (K (.mk b vk (k.eraseIdx i)))) :
    ∃ G', TreeF w7 p G' (some (K (.mk b vk (k.eraseIdx i)))) n ∧ Fresh w0 G G' ∧ Chg G w0 w7 := by
  have hsub := hway.sub
  have hroot := hway.root
  have hlt : ∀ q ∈ o, q < w.heap.size ∧ ¬ ro q := fun q hq => by have := hroot.2.2.2 q (by simp [hsub.1 q hq]); exact ⟨this.2, this.1⟩
  have hyo : y ∈ o := by rw [ho]; simp
  have hkvo : ∀ g, vblock kv = some g → g ∈ o := fun g hg => by rw [ho]; simp [vb_list.2 hg]
  have hS : ∀ q, (q = y ∨ vblock kv = some q) → q ∈ o := fun q hq => hq.elim (fun e => e ▸ hyo) (hkvo q)
  have hro : ∀ q, ro q → ¬ (q = y ∨ vblock kv = some q) := fun q hq hq' => (hlt q (hS q hq')).2 hq
  have hnd := hsub.2.1
  rw [ho, List.nodup_cons, List.nodup_append] at hnd
  obtain ⟨n1, n2, n3, n4⟩ := hnd
  simp only [List.mem_append, not_or] at n1
  have hrows : NodesAt w7 ro k xs rows := NodesAt.chg hc hro hp.2.2.2 fun q hq hq' => by
    rcases hq' with rfl | hq'
    · exact n1.2 hq
    · exact n4 q (vb_list.2 hq') q hq rfl
  obtain ⟨pre, oi, post, hpp, her⟩ := NodesAt.erase hrows i hi
  have hnode : NodeAt w7 ro (.mk b vk (k.eraseIdx i)) y (y :: ((vblock kv').toList ++ (pre ++ post))) := by
    rw [NodeAt]
    refine ⟨a, ca, kv', _, _, h7, hp.2.1.chg hc hro, ?_, her, rfl⟩
    rw [List.length_eraseIdx, if_pos hi, ← map_eraseIdx]
    exact hs7
  have hrin : ∀ q ∈ rows, q ∈ o := fun q hq => by rw [ho]; simp [hq]
  have hpr : ∀ q, q ∈ pre ∨ q ∈ post → q ∈ rows := fun q hq => by rw [hpp]; simp only [List.mem_append]; exact hq.imp id .inr
  rw [hpp, List.nodup_append, List.nodup_append] at n3
  have gd1 : (y :: ((vblock kv').toList ++ (pre ++ post))).Nodup := by
    rw [List.nodup_cons, List.nodup_append, List.nodup_append]
    refine ⟨?_, by cases vblock kv' <;> simp, ⟨n3.1, n3.2.1.2.1, fun q hq q' hq' => n3.2.2 q hq q' (by simp [hq'])⟩, ?_⟩
    · simp only [List.mem_append, vb_list, not_or]
      refine ⟨fun h => ?_, fun h => n1.2 (hpr y (.inl h)), fun h => n1.2 (hpr y (.inr h))⟩
      rcases hkv' with h' | ⟨g, h1, h2⟩
      · rw [h'] at h; exact n1.1 (vb_list.2 h)
      · rw [h1] at h; cases h; have := (hlt y hyo).1; omega
    · intro q hq q' hq' e
      subst e
      rw [vb_list] at hq
      have hq2 := hpr q (by simpa using hq')
      rcases hkv' with h' | ⟨g, h1, h2⟩
      · rw [h'] at hq; exact n4 q (vb_list.2 hq) q hq2 rfl
      · rw [h1] at hq; cases hq; have := (hlt q (hrin q hq2)).1; omega
  have gd2 : ∀ q ∈ (y :: ((vblock kv').toList ++ (pre ++ post))), (q ∈ o ∨ w.heap.size ≤ q) ∧ q < w7.heap.size := by
    intro q hq
    have old : ∀ q ∈ o, (q ∈ o ∨ w.heap.size ≤ q) ∧ q < w7.heap.size := fun q hq => ⟨.inl hq, Nat.lt_of_lt_of_le (hlt q hq).1 hc.size⟩
    simp only [List.mem_cons, List.mem_append, vb_list] at hq
    rcases hq with rfl | hq | hq | hq
    · exact old _ hyo
    · rcases hkv' with h' | ⟨g, h1, h2⟩
      · rw [h'] at hq; exact old q (hkvo q hq)
      · rw [h1] at hq; cases hq
        exact ⟨.inr h2, (hs7.block_lt h1).2⟩
    · exact old q (hrin q (hpr q (.inl hq)))
    · exact old q (hrin q (hpr q (.inr hq)))
  exact hway.done (w0 := w0) (G := G) (y' := y) hGp hGo hGr hGl h0 (hc.mono fun q hq _ => .inl (hS q hq)) (SetAt.same hc (by rw [not_or]; exact ⟨fun e => hsub.2.2.1 (e ▸ hyo), fun e => hsub.2.2.1 (hkvo c e)⟩) hway.cell.1) hnode gd1 gd2 hw
/-- Where two were below: the other one joins the node. -/
theorem del_join {b2 : List UInt8} {v2 : VT} {k2 : List RT} {z2 : Nat} {a2 : Option Addr} {c2 : Nat} {kv2 : Value} {xs2 rows2 : List Nat} {a9 : Option Addr} {c9 g9 : Nat}
    (hway : Way w ro p n t x own s (.mk b vk k) y o (b ++ s2) ab c d K) (hp : Parts w ro b vk k y a ca kv xs rows) (ho : o = y :: ((vblock kv).toList ++ rows))
    (hp2 : Parts w ro b2 v2 k2 z2 a2 c2 kv2 xs2 rows2) (hin : ∀ q ∈ (z2 :: ((vblock kv2).toList ++ rows2)), q ∈ rows) (hnd2 : (z2 :: ((vblock kv2).toList ++ rows2)).Nodup)
    (h7 : w7.heap[y]? = some (.cells #[.slice a9 (b ++ b2).length c9, kv2, vC v2] 89 (0, 0))) (hb9 : BytesRo w7 (fun j => j = g9) a9 (b ++ b2) c9) (hg9 : w.heap.size ≤ g9) (hg9' : g9 < w7.heap.size)
    (hc : Chg (fun j => j = y ∨ vblock kv = some j) w w7)
    (hGp : G p) (hGo : ∀ k ∈ own, G k) (hGr : ∀ k, ro k → (G k ∨ w0.heap.size ≤ k) ∧ k < w.heap.size) (hGl : ∀ k, G k → k < w0.heap.size) (h0 : Chg G w0 w) (hw : WF 16 (K (.mk (b ++ b2) v2 k2))) :
    ∃ G', TreeF w7 p G' (some (K (.mk (b ++ b2) v2 k2))) n ∧ Fresh w0 G G' ∧ Chg G w0 w7 := by
  have hsub := hway.sub
  have hroot := hway.root
  have hlt : ∀ q ∈ o, q < w.heap.size ∧ ¬ ro q := fun q hq => by have := hroot.2.2.2 q (by simp [hsub.1 q hq]); exact ⟨this.2, this.1⟩
  have hyo : y ∈ o := by rw [ho]; simp
  have hkvo : ∀ g, vblock kv = some g → g ∈ o := fun g hg => by rw [ho]; simp [vb_list.2 hg]
  have hS : ∀ q, (q = y ∨ vblock kv = some q) → q ∈ o := fun q hq => hq.elim (fun e => e ▸ hyo) (hkvo q)
  have hro : ∀ q, ro q → ¬ (q = y ∨ vblock kv = some q) := fun q hq hq' => (hlt q (hS q hq')).2 hq
  have hnd := hsub.2.1
  rw [ho, List.nodup_cons, List.nodup_append] at hnd
  obtain ⟨n1, n2, n3, n4⟩ := hnd
  simp only [List.mem_append, not_or] at n1
  have hrS : ∀ q ∈ rows, ¬ (q = y ∨ vblock kv = some q) := fun q hq hq' => by
    rcases hq' with rfl | hq'
    · exact n1.2 hq
    · exact n4 q (vb_list.2 hq') q hq rfl
  have hrin : ∀ q ∈ rows, q ∈ o := fun q hq => by rw [ho]; simp [hq]
  have h0' := h0.size
  have hsz := hc.size
  have hmem : ∀ q, vblock kv2 = some q ∨ q ∈ rows2 → q ∈ rows := fun q hq => hin q (by simp only [List.mem_cons, List.mem_append, vb_list]; exact .inr hq)
  have hnode : NodeAt w7 (fun j => ro j ∨ j = g9) (.mk (b ++ b2) v2 k2) y (y :: ((vblock kv2).toList ++ rows2)) := by
    rw [NodeAt]
    refine ⟨a9, c9, kv2, xs2, rows2, h7, ⟨hb9.1, hb9.2.imp id fun ⟨q, e, r1, r2, r3⟩ => ⟨q, e, r1, .inr r2, r3⟩⟩, hp2.2.2.1.chg hc fun g hg => hrS g (hmem g (.inl hg)), (NodesAt.chg hc hro hp2.2.2.2 fun q hq => hrS q (hmem q (.inr hq))).ro fun q hq => .inl hq, rfl⟩
  rw [List.nodup_cons] at hnd2
  have gd1 : (y :: ((vblock kv2).toList ++ rows2)).Nodup := List.nodup_cons.2 ⟨fun hq => n1.2 (hmem y (by simpa only [List.mem_append, vb_list] using hq)), hnd2.2⟩
  have gd2 : ∀ q ∈ (y :: ((vblock kv2).toList ++ rows2)), (q ∈ o ∨ w.heap.size ≤ q) ∧ ¬ (ro q ∨ q = g9) ∧ q < w7.heap.size := fun q hq => by
    have hqo : q ∈ o := by
      simp only [List.mem_cons, List.mem_append, vb_list] at hq
      rcases hq with rfl | hq
      · exact hyo
      · exact hrin q (hmem q hq)
    have := hlt q hqo
    exact ⟨.inl hqo, by rw [not_or]; exact ⟨this.2, by omega⟩, by omega⟩
  refine hway.done2 (w0 := w0) (G := G) (y' := y) (ro' := fun j => ro j ∨ j = g9) hGp hGo (fun q hq => ?_) hGl h0 (fun q hq => .inl hq) (fun q hq => ?_) (hc.mono fun q hq _ => .inl (hS q hq)) (SetAt.same hc (by rw [not_or]; exact ⟨fun e => hsub.2.2.1 (e ▸ hyo), fun e => hsub.2.2.1 (hkvo c e)⟩) hway.cell.1) hnode gd1 gd2 hw
  · rcases hq with hq | rfl
    · have := hGr q hq; exact ⟨this.1, by omega⟩
    · exact ⟨.inr (by omega), hg9'⟩
  · rcases hq with hq | rfl
    · exact .inl hq
    · exact .inr hg9
end
end Go.Proofs.YtmaemgihhipllaaGreatDoor.Sad

/- radix: Delete of what is not there, and of the only thing. -/
namespace Go.Proofs.YtmaemgihhipllaaGreatDoor.Sad
open Go.Proofs.YtmaemgihhipllaaGreatDoor
set_option linter.unusedVariables false
set_option linter.unusedSimpArgs false
open Go.RowKit RT
/-- What Delete does. -/
def Deleted (w : World) (p : Nat) (G : Nat → Prop) (T : Option RT) (n : Nat) (s : List UInt8) (e : Ending) (w' : World) : Prop :=
  e = .returned (.bool (lookO T s).isSome) ∧ ∃ G', TreeF w' p G' (if (lookO T s).isSome then delO T s else T) (if (lookO T s).isSome then n - 1 else n) ∧ Fresh w G G' ∧ Chg G w w'
theorem Deleted.no {w w' : World} {p : Nat} {G : Nat → Prop} {T : Option RT} {n : Nat} {s : List UInt8} (h : TreeF w p G T n) (hl : lookO T s = none) (hb : Below w.heap.size w w') : Deleted w p G T n s (.returned (.bool false)) w' := by
  refine ⟨by rw [hl]; rfl, G, ?_, fun k hk => .inl hk, Chg.of_below _ hb⟩
  rw [hl]
  exact h.below hb
theorem Deleted.yes {w w' : World} {p : Nat} {G : Nat → Prop} {T : Option RT} {n : Nat} {s : List UInt8} (hl : (lookO T s).isSome = true) (h : ∃ G', TreeF w' p G' (delO T s) (n - 1) ∧ Fresh w G G' ∧ Chg G w w') : Deleted w p G T n s (.returned (.bool true)) w' := by
  refine ⟨by rw [hl], ?_⟩
  rw [hl]
  simpa using h
theorem del_first {w w3 : World} {p : Nat} {G : Nat → Prop} {t : RT} {x n : Nat} {own : List Nat} {ro : Nat → Prop} {s : List UInt8} {v : VT} (hGl : ∀ k, G k → k < w.heap.size) (hG : ∀ k, k = p ∨ k ∈ own ∨ ro k → G k) (hb : Below w.heap.size w w3) (hr : RootAt w3 ro p n t x own) (ht : t = .mk s v []) (hn : 0 < n) :
    ∃ G', TreeF ((w3.setCell ⟨p, 2, none⟩ (.int .i64 ((n : Int) - 1))).setCell ⟨p, 1, none⟩ (.pointer none)) p G' (delO (some t) s) (n - 1) ∧ Fresh w G G' ∧ Chg G w ((w3.setCell ⟨p, 2, none⟩ (.int .i64 ((n : Int) - 1))).setCell ⟨p, 1, none⟩ (.pointer none)) := by
  have hd : delO (some t) s = none := by rw [ht]; rfl
  have h1 := setCell_head hr.1 2 (.int .i64 ((n : Int) - 1))
  have h2 := setCell_head h1 1 (.pointer none)
  have hc : Chg (fun k => k = p) w3 ((w3.setCell ⟨p, 2, none⟩ (.int .i64 ((n : Int) - 1))).setCell ⟨p, 1, none⟩ (.pointer none)) := (Chg.setCell (fun k => k = p) _ _ _ rfl).trans (Chg.setCell (fun k => k = p) _ _ _ rfl) fun _ h _ => h
  have hc0 := (Chg.of_below G hb).trans hc fun k hk _ => hk ▸ hG p (.inl rfl)
  rw [hd]
  refine ⟨G, ⟨fun k hk => Nat.lt_of_lt_of_le (hGl k hk) hc0.size, ?_, hG p (.inl rfl)⟩, fun k hk => .inl hk, hc0⟩
  rw [h2]
  simp
  omega
/-- What is known of Delete behind its find. -/
theorem radDel_pre {w : World} {p : Nat} {G : Nat → Prop} {T : Option RT} {n : Nat} (h : TreeF w p G T n) {s : List UInt8} {w2 w3 : World} {e : Ending} (hb2 : Below w.heap.size w w2) (hf : FindF w2 p G T n s e w3) (hs : s.length = 16) : Below w.heap.size w w3 ∧ (w2.heap.size ≤ w3.heap.size) := by
  exact ⟨hb2.trans (hf.1.mono hb2.size), hf.1.size⟩
set_option maxHeartbeats 1600000 in
set_option maxRecDepth 100000 in
theorem radDel_small {w : World} {p : Nat} {G : Nat → Prop} {T : Option RT} {n : Nat} (h : TreeF w p G T n) {ms seq : Nat} (h1 : ms < 18446744073709551616) (h2 : seq < 18446744073709551616) (hn : n ≤ 1000000000) (hl : lookO T (idBytes ms seq) ≠ none → 0 < n ∧ ∃ t, T = some t ∧ t.kids = []) :
    Calls Tryz.prog 55 #[ptrV p, .agg #[.int .u64 ms, .int .u64 seq]] w (Deleted w p G T n (idBytes ms seq)) := by
  have HF := Lib.hid (fun w' (hb : Below w.heap.size w w') a ca (ha : BytesIn w' a (idBytes ms seq) ca) => radFindF (h.below hb) (idBytes_length ms seq) ha)
  have HBy := Lib.hid (fun w => bytes_any ms seq h1 h2 w)
  obtain ⟨w1, hw1⟩ : ∃ w1, w1 = w.alloc (.cells #[.int .u64 ms, .int .u64 seq] 41) := ⟨_, rfl⟩
  have hb1 : Below w.heap.size w w1 := by rw [hw1]; exact (Below.refl _ _).alloc (Nat.le_refl _) _
  have HW := Lib.hid hw1
  have HB1 := Lib.hid hb1
  have HT := Lib.hid h
  have HL := Lib.hid hl
  clear h h1 h2 hw1 hb1 hl
  unfold ptrV
  go_enter Tryz.func55, Tryz.ntmps55
  go_wp2_with fail
  rw [← HW.out]
  refine (HBy.out _).mono ?_
  rintro e w2 ⟨bv, rfl, hs, hb⟩
  obtain ⟨a, ca, rfl, hbi⟩ := slice_bytes hs
  have HB2 := Lib.hid (HB1.out.trans (hb.mono HB1.out.size))
  have HBi := Lib.hid hbi
  clear hs hb hbi
  go_wp2_with fail
  refine (HF.out w2 HB2.out a ca HBi.out).mono ?_
  rintro e w3 ⟨hb3, hcase⟩
  have HB3 := Lib.hid (HB2.out.trans (hb3.mono HB2.out.size))
  rcases hcase with ⟨hno, rfl⟩ | ⟨ro, t, x, own, v, y, o, s', ab, c, d, K, va, hT, hw, hG, hlk, hway, rfl, hsl⟩
  · have HNo := Lib.hid hno
    clear hno hb3
    go_wp2_with fail
    go_ret
    exact Deleted.no HT.out HNo.out HB3.out
  · obtain ⟨hn0, t', hT', hk⟩ := HL.out (by rw [hT]; intro e; rw [show lookO (some t) (idBytes ms seq) = RT.look t (idBytes ms seq) from rfl, hlk] at e; cases e)
    rw [hT] at hT'
    cases hT'
    have hab : ab = [] := Decidable.byContradiction fun hab => by
      have hpl := hway.plain (by rw [idBytes_length]; exact hw)
      have key : ∀ {u : RT} {y : Nat} {o : List Nat} {s' : List UInt8} {ab : List Nat} {c d : Nat} {K : RT → RT}, Way w2 ro p n t x own (idBytes ms seq) u y o s' ab c d K → ab ≠ [] → t.kids ≠ [] := by
        intro u y o s' ab c d K h
        induction h with
        | here _ => intro h; exact absurd rfl h
        | @down b v k y o s' ab c d K i z oi g u h _ hu _ _ ih =>
          intro _
          by_cases h0 : ab = []
          · have := h.roots h0
            rw [← this]
            intro e
            rw [show (RT.mk b v k).kids = k from rfl] at e
            rw [e] at hu; simp at hu
          · exact ih h0
      exact key hway hab hk
    have htt := hway.roots hab
    have hs' : s' = idBytes ms seq := by
      rw [← htt] at hlk
      have := look_pre (t := .mk s' v []) (s := idBytes ms seq) (by rw [hlk]; rfl)
      have hwl := hw
      rw [← htt, WF] at hwl
      have hl16 : s'.length = 16 := by
        rcases hwl.2 with ⟨_, h⟩ | ⟨h, _⟩
        · exact h
        · simp at h
      rw [show (RT.mk s' v []).begin = s' from rfl, hl16, ← idBytes_length ms seq, List.take_length] at this
      exact this.symm
    have hr3 := hway.root.chg (Chg.of_below (fun _ => False) hb3) (fun _ _ => id) fun _ _ => id
    have h3 := hr3.1
    have d2 := cell_in h3 (i := 2) rfl
    have d1 := cell_in h3 (i := 1) rfl
    have f1 := frozen_in h3 1
    have f2 := frozen_in h3 2
    obtain ⟨a5, c5, rfl, _⟩ := hsl.arg
    have hab0 : ab.length = 0 := by rw [hab]; rfl
    rw [hab0]
    have HFin := Lib.hid (Deleted.yes (w := w) (G := G) (T := some t) (n := n) (s := idBytes ms seq) (p := p) (by show (RT.look t (idBytes ms seq)).isSome = true; rw [hlk]; rfl) (del_first (v := v) HT.out.1 hG HB3.out hr3 (by rw [← htt, hs']) hn0))
    have HT2 := Lib.hid hT
    clear h3 hr3 htt hs' hk hsl hab hway hlk hG hw hb3 hab0 hT
    go_wp2_with fail
    go_ret
    rw [HT2.out]
    exact HFin.out
end Go.Proofs.YtmaemgihhipllaaGreatDoor.Sad

/- radix: Delete of one among others. -/
namespace Go.Proofs.YtmaemgihhipllaaGreatDoor.Sad
open Go.Proofs.YtmaemgihhipllaaGreatDoor
set_option linter.unusedVariables false
set_option linter.unusedSimpArgs false
open Go.RowKit RT
theorem SliceIs.two {w : World} {B : Nat} {e : TypeId} {g n cap : Nat} {xs : List Value} (h : SliceIs w B e (.slice (some ⟨g, 0, none⟩) n cap) n xs) {i : Nat} (hi : i < n) : w.cell? ⟨g, i, none⟩ = some (xs.getD i undef) := by
  obtain ⟨hl, hx⟩ := h
  obtain ⟨g', cap', cur, he, _, hrow, hcs, hnc, hcm, htk⟩ := hx.resolve_left (by simp)
  cases he
  refine hrow.cell ?_
  have e := congrArg (fun l => l[i]?) htk
  simp only [List.getElem?_take_of_lt hi, Array.getElem?_toList] at e
  rw [e]; simp [List.getD, show i < xs.length by omega]
set_option maxHeartbeats 6400000 in
set_option maxRecDepth 100000 in
theorem radDel_in {w : World} {p : Nat} {G : Nat → Prop} {t : RT} {n : Nat} (h : TreeF w p G (some t) n) {ms seq : Nat} (h1 : ms < 18446744073709551616) (h2 : seq < 18446744073709551616) (hn : n ≤ 1000000000) (hn0 : 0 < n) (hl : (RT.look t (idBytes ms seq)).isSome = true) (hk : t.kids ≠ []) :
    Calls Tryz.prog 55 #[ptrV p, .agg #[.int .u64 ms, .int .u64 seq]] w (Deleted w p G (some t) n (idBytes ms seq)) := by
  have HF := Lib.hid (fun w' (hb : Below w.heap.size w w') a ca (ha : BytesIn w' a (idBytes ms seq) ca) => radFindF (h.below hb) (idBytes_length ms seq) ha)
  have HBy := Lib.hid (fun w => bytes_any ms seq h1 h2 w)
  obtain ⟨w1, hw1⟩ : ∃ w1, w1 = w.alloc (.cells #[.int .u64 ms, .int .u64 seq] 41) := ⟨_, rfl⟩
  have hb1 : Below w.heap.size w w1 := by rw [hw1]; exact (Below.refl _ _).alloc (Nat.le_refl _) _
  have HW := Lib.hid hw1
  have HB1 := Lib.hid hb1
  have HT := Lib.hid h
  have HL := Lib.hid (And.intro hl hk)
  clear h h1 h2 hw1 hb1 hl hk
  unfold ptrV
  go_enter Tryz.func55, Tryz.ntmps55
  go_wp2_with fail
  rw [← HW.out]
  refine (HBy.out _).mono ?_
  rintro e w2 ⟨bv, rfl, hs, hb⟩
  obtain ⟨a, ca, rfl, hbi⟩ := slice_bytes hs
  have HB2 := Lib.hid (HB1.out.trans (hb.mono HB1.out.size))
  have HBi := Lib.hid hbi
  clear hs hb hbi
  go_wp2_with fail
  refine (HF.out w2 HB2.out a ca HBi.out).mono ?_
  rintro e w3 ⟨hb3, hcase⟩
  have HB3 := Lib.hid (HB2.out.trans (hb3.mono HB2.out.size))
  obtain ⟨ro, t', x, own, v, z, oz, s', ab, g, i, K, va, hT, hw, hG, hlk, hway, rfl, hsl⟩ := hcase.resolve_left (fun h => by
    have := h.1
    rw [show lookO (some t) (idBytes ms seq) = RT.look t (idBytes ms seq) from rfl] at this
    have h2 := HL.out.1
    rw [this] at h2; cases h2)
  cases hT
  have hab : ab ≠ [] := fun hab => by
    have := hway.roots hab
    exact HL.out.2 (by rw [← this]; rfl)
  obtain ⟨b, vk, k, y, o, ab', c, d, K', hup, hkid, hki, hs0, hfirst, hab'⟩ := hway.up hab
  have hGl : ∀ k, G k → k < w.heap.size := HT.out.1
  have hr3 := hup.root.chg (Chg.of_below (fun _ => False) hb3) (fun _ _ => id) fun _ _ => id
  have h3 := hr3.1
  obtain ⟨w4, hw4⟩ : ∃ w4, w4 = w3.setCell ⟨p, 2, none⟩ (.int .i64 ((n : Int) - 1)) := ⟨_, rfl⟩
  have h34 : Chg (fun j => j = p) w3 w4 := by rw [hw4]; exact Chg.setCell _ _ _ _ rfl
  have hc24 : Chg (fun j => j = p) w2 w4 := (Chg.of_below _ hb3).trans h34 fun _ h _ => h
  have hpo : ∀ q ∈ own, q ≠ p ∧ ¬ ro q ∧ q < w2.heap.size := fun q hq => ⟨fun e => (List.nodup_cons.1 hup.root.2.2.1).1 (e ▸ hq), (hup.root.2.2.2 q (by simp [hq])).1, (hup.root.2.2.2 q (by simp [hq])).2⟩
  have hpro : ¬ ro p := (hup.root.2.2.2 p (by simp)).1
  have hroot4 : RootAt w4 ro p (n - 1) t x own := by
    refine ⟨?_, hup.root.2.1.chg hc24 (fun j hj e => hpro (e ▸ hj)) fun q hq => (hpo q hq).1, hup.root.2.2.1, fun q hq => ⟨(hup.root.2.2.2 q hq).1, Nat.lt_of_lt_of_le (hup.root.2.2.2 q hq).2 hc24.size⟩⟩
    rw [hw4, setCell_head h3 2 _]
    simp
    omega
  have hw4up := hup.count hroot4 hc24
  have hpl := hw4up.plain (by rw [idBytes_length]; exact hw)
  obtain ⟨k1, k2, k3, k4⟩ := hpl.1.kids
  have hid : i < k.length := by
    rcases Nat.lt_or_ge i k.length with h | h
    · exact h
    · rw [List.getElem?_eq_none h] at hki; cases hki
  have hk2 := k3 (fun e => by rw [e] at hid; simp at hid)
  have hwfk : WFS s'.length k := by
    have := k4
    rw [List.length_append, Nat.add_sub_cancel_left] at this
    exact this
  have hdel : RT.del t (idBytes ms seq) = K' (join b vk (k.eraseIdx i)) := by
    rw [hpl.2.2.2.1 (fun e => by rw [show (RT.mk b vk k).kids = k from rfl] at e; rw [e] at hid; simp at hid), RT.del]
    rw [show (b ++ s').drop b.length = s' by simp, RT.delS_get hwfk hki hfirst]
    exact congrArg (fun l => K' (join b vk l)) (if_pos rfl)
  have hwdel : WF 16 (K' (join b vk (k.eraseIdx i))) := by rw [← hdel]; exact WF_del hw HL.out.2 (idBytes_length ms seq) HL.out.1
  obtain ⟨aa, cc, kv, xs, rows, hp, ho⟩ := parts_of hw4up.node
  have hxl : xs.length = k.length := NodesAt.length hp.2.2.2
  have hsub := hw4up.sub
  have hyo : y ∈ o := by rw [ho]; simp
  have hyx := hpo y (hsub.1 y hyo)
  obtain ⟨g1, cap, cur, hkv, _, _, _, hcap, hcapm, _⟩ := hp.2.2.1.2.resolve_left (by omega)
  subst hkv
  have hgo : g1 ∈ o := by rw [ho]; simp [vblock]
  have hgy : g1 ≠ y := fun e => by
    have := hsub.2.1
    rw [ho, List.nodup_cons] at this
    exact this.1 (by simp [vblock, e])
  -- the leaf
  have hz := hway.node
  obtain ⟨za, zc, zkv, zxs, zrows, hzp, hzo⟩ := parts_of hz
  obtain ⟨zb, zq, rfl, hzro, hzlt, hzc⟩ := hzp.2.1.2.resolve_left (by have := List.length_pos_iff.2 hs0; omega)
  obtain ⟨ch, hch⟩ : ∃ ch, s'.getD 0 0 = ch := ⟨_, rfl⟩
  have hzi : z ∈ own := hway.sub.1 z (by rw [hzo]; simp)
  have z0 : w4.cell? ⟨z, 0, none⟩ = some (.slice (some ⟨zb, zq, none⟩) s'.length zc) := cell_in (hc24.keep hzp.1 (hpo z hzi).1) (i := 0) rfl
  have zch : w4.cell? ⟨zb, zq, none⟩ = some (.int .u8 ch.toNat) := by
    have := ((hzp.2.1).chg hc24 (fun j hj e => hpro (e ▸ hj))).2.resolve_left (by have := List.length_pos_iff.2 hs0; omega)
    obtain ⟨b', o', e, _, _, hc⟩ := this
    cases e
    have := hc 0 (List.length_pos_iff.2 hs0)
    rw [Nat.add_zero, hch] at this
    exact this
  -- what lies above
  obtain ⟨q, hq⟩ : ∃ q, q = ab'.length := ⟨_, rfl⟩
  have hqb : q ≤ 17 := by have := hpl.2.2.2.2.2.1; rw [idBytes_length] at this; omega
  have habl : ab.length = q + 1 := by rw [hab', hq]; simp
  rw [habl] at hsl
  obtain ⟨a5, c5, hva, _⟩ := hsl.arg
  subst hva
  obtain ⟨g5, cap5, cur5, he5, hg5, _⟩ := hsl.2.resolve_left (by simp)
  cases he5
  have hp2 : p < w2.heap.size := heap_lt hup.root.1
  have hsl4 := hsl.chg h34 fun j hj e => by simp [vblock] at hj; omega
  have habv : w4.cell? ⟨g5, q, none⟩ = some (.pointer (some ⟨y, 0, none⟩)) := by
    rw [SliceIs.two hsl4 (i := q) (by omega), hab']
    simp [List.getD, hq, ptrV]
  have hsk := radSeek hw4up.node (fun u hu => (hwfk.mem u hu).1) hwfk.rise (by have := hwfk.few; omega) ch
  have hri : ∀ r, PlaceB (k.map RT.first) ch r → r = i := fun r hP => place_at hP hwfk.rise (by simpa using hid) (by
    obtain ⟨hh, e⟩ := List.getElem?_eq_some_iff.1 hki
    rw [← hch, ← hfirst]; simp [List.getD, hid, e])
  have hfew := hwfk.few
  have hGr : ∀ j, ro j → (G j ∨ w.heap.size ≤ j) ∧ j < w4.heap.size := fun j hj => by
    have h := hG j (.inr (.inr hj))
    exact ⟨.inl h, by have := hGl j h; have := HB2.out.size; have := hc24.size; omega⟩
  have hG4 : Chg G w w4 := ((Chg.of_below (fun j => j = p) HB2.out).trans hc24 fun _ h _ => h).mono fun j hj _ => hj ▸ hG p (.inl rfl)
  have HFr := Lib.hid (show G p ∧ (∀ k ∈ own, G k) ∧ (∀ k, ro k → (G k ∨ w.heap.size ≤ k) ∧ k < w4.heap.size) ∧ (∀ k, G k → k < w.heap.size) ∧ Chg G w w4 from ⟨hG p (.inl rfl), fun k hk => hG k (.inr (.inl hk)), hGr, hGl, hG4⟩)
  have HUp := Lib.hid (And.intro hw4up (And.intro hp (And.intro ho (And.intro hdel hwdel))))
  have d2 := cell_in h3 (i := 2) rfl
  have f2 := frozen_in h3 2
  have HW4 := Lib.hid hw4
  have HSk := Lib.hid hsk
  have HRi := Lib.hid hri
  have e5 : (((q : Int) + 1) == 0) = false := by simp; omega
  obtain ⟨n0, hn0'⟩ : ∃ n0, s'.length = n0 := ⟨_, rfl⟩
  have hn0p : 0 < n0 := by have := List.length_pos_iff.2 hs0; omega
  obtain ⟨kl, hkl⟩ : ∃ kl, k.length = kl := ⟨_, rfl⟩
  obtain ⟨bl, hbl⟩ : ∃ bl, b.length = bl := ⟨_, rfl⟩
  rw [hn0'] at z0
  have hp1 := hp.1
  rw [hkl, hbl] at hp1
  have hs4 := hp.2.2.1
  rw [hkl] at hs4 hid hfew hcap
  have hk2' := hk2.1
  rw [hkl] at hk2'
  have HS4 := Lib.hid hs4
  have HP1 := Lib.hid hp1
  have HKl := Lib.hid (And.intro hkl (And.intro hbl hxl))
  have HWk := Lib.hid (And.intro hwfk hki)
  have HOwn := Lib.hid (And.intro hlk hpo)
  have HOr := Lib.hid (show vblock (.slice (some ⟨g1, 0, none⟩) kl cap) = some g1 ∧ g1 ≠ y ∧ y < w4.heap.size ∧ g1 < w4.heap.size from ⟨rfl, hgy, heap_lt hp.1, (hs4.block_lt rfl).2⟩)
  clear hsl4 hGr hG4 hri hsk hfirst hki hwfk hk2 hdel hwdel hpl hw4up hroot4 hup hkid hway hlk hG hw hsl hz hzp hzo hzc hzro hzlt hp ho hsub hyo hyx hgo hgy hp1 hs4 hc24 h34 hr3 h3 hb3 hw4 hpo hzi habl hq hab' hcapm hxl hkl hbl hs0 hch hn0' k1 k2 k3 k4 hGl hg5 hab
  go_upto_region 5 with (fail)
  rw [← HW4.out]
  go_wp2_with fail
  refine HSk.out.mono ?_
  rintro e w5 ⟨r, hP, rfl, hb5⟩
  obtain rfl : r = i := HRi.out r hP
  have hy5 : w5.heap[y]? = some (.cells #[.slice aa bl cc, .slice (some ⟨g1, 0, none⟩) kl cap, vC vk] 89 (0, 0)) := (hb5.block y HOr.out.2.2.1).trans HP1.out
  have hs5 := HS4.out.chg (Chg.of_below (fun _ => False) hb5) fun _ _ => id
  obtain ⟨i0, q1, q2, q3, q4⟩ := info_parts info_node
  obtain ⟨kv', w6, hr6, hs6, hc6, hv6⟩ := run_erase (t := 87) (ty := 87) (w := w5.drewN 1) Tryz.underlying87 q1 q2 q3 q4 rfl hs5 (i := r) hid (fun u hu => by obtain ⟨z, _, rfl⟩ := List.mem_map.1 hu; rfl) (by omega) (by omega)
  have hy6 : w6.heap[y]? = some (.cells #[.slice aa bl cc, .slice (some ⟨g1, 0, none⟩) kl cap, vC vk] 89 (0, 0)) := hc6.keep (w := w5.drewN 1) hy5 (fun e => HOr.out.2.1 e.symm)
  obtain ⟨g6, cap6, cur6, rfl, _, _, _, hcap6, _, _⟩ := hs6.2.resolve_left (by omega)
  obtain ⟨w7, hw7⟩ : ∃ w7, w7 = w6.setCell ⟨y, 1, none⟩ (.slice (some ⟨g6, 0, none⟩) (kl - 1) cap6) := ⟨_, rfl⟩
  have hy7 : w7.heap[y]? = some (.cells #[.slice aa bl cc, .slice (some ⟨g6, 0, none⟩) (kl - 1) cap6, vC vk] 89 (0, 0)) := by rw [hw7]; exact setCell_head hy6 1 _
  have hg6 : g6 = g1 ∨ w5.heap.size ≤ g6 := by
    rcases hv6 with h | ⟨g', h, h'⟩
    · left; simpa [vblock] using h
    · right; obtain rfl : g6 = g' := by simpa [vblock] using h
      exact h'
  have hsz5 := hb5.size
  have hg6y : g6 ≠ y := by
    have := HOr.out
    rcases hg6 with rfl | h
    · exact this.2.1
    · omega
  have h67 : Chg (fun j => j = y) w6 w7 := by rw [hw7]; exact Chg.setCell _ _ _ _ rfl
  have hs7 := hs6.chg h67 fun j hj e => by simp [vblock] at hj; omega
  have hc7 : Chg (fun j => j = y ∨ j = g1) w4 w7 := (((Chg.of_below (fun j => j = y ∨ j = g1) hb5).trans (Chg.drewN (fun j => j = y ∨ j = g1) w5 1) fun _ h _ => h).trans hc6 fun _ h _ => .inr h).trans h67 fun _ h _ => .inl h
  have y51 := cell_in hy5 (i := 1) rfl
  have y61 := cell_in hy6 (i := 1) rfl
  have fy6 := frozen_in hy6 1
  have HR6 := Lib.hid hr6
  have HW7 := Lib.hid hw7
  have H7 := Lib.hid (And.intro hy7 (And.intro hs7 (And.intro hc7 hg6)))
  have y70 := cell_in hy7 (i := 0) rfl
  have y71 := cell_in hy7 (i := 1) rfl
  obtain ⟨X1, f, hX1, hf, hF⟩ := classOf (fun w => w.cell? ⟨y, 1, none⟩ = some (.slice (some ⟨g1, 0, none⟩) kl cap)) y51
  have HF1 := Lib.hid (hF w5.drew y51)
  have HF2 := Lib.hid (hF w6 y61)
  have hzf : Hid (w7.cell? ⟨g6, 0, none⟩ = some (((xs.map ptrV).eraseIdx r).getD 0 undef)) := Lib.hid (SliceIs.two hs7 (by omega))
  clear hF hy7 hs7 hc7 hg6 hw7 hr6 hy6 hs6 hc6 hv6 hs5 hy5 hb5 hP q1 q2 q3 q4 h67 z0 zch habv y51 d2 f2
  go_wp2_with fail
  refine wp_region_text ⟨[14, 17], [], 17⟩ (fun w' => ∃ x : X1, w' = f x) (by kernel_rfl) (by kernel_rfl) HF1.out ?_
  refine wpC_seg false (HF1.out) 14 0 _ _ (by rfl) (by rfl) ?_
  simp only [List.take_succ_cons, List.take_zero, List.drop_succ_cons, List.drop_zero, Bool.false_eq_true, if_false, Nat.zero_add, Nat.reduceAdd]
  repeat (go_big_quiet_step (fail))
  refine wpQuiet_nil ?_
  refine wpC_value (by rfl) (by rfl) (exec_append rfl HR6.out) (fun _ => HF2.out) ?_
  generalize (if cap = r + 1 then some (⟨g1, 0, none⟩ : Addr) else some ⟨g1, r + 1, none⟩) = adr
  simp only [Act.put, List.setIfInBounds_toArray, List.set_cons_succ, List.set_cons_zero]
  refine wpC_seg false (HF2.out) 2 15 _ _ (by rfl) (by rfl) ?_
  simp only [List.take_succ_cons, List.take_zero, List.drop_succ_cons, List.drop_zero, Bool.false_eq_true, if_false, Nat.zero_add, Nat.reduceAdd]
  repeat (go_big_quiet_step (fail))
  refine wpQuiet_nil ?_
  refine wpC_loud (by rfl) (by rfl) fun K hK => ?_
  go_wp2_with fail
  rw [← HW7.out]
  refine hK _ _ (fun h => absurd h (by decide)) ?_
  refine wpC_nil ?_
  clear hK hf hX1 HF1 HF2 f y61 fy6
  rcases Nat.lt_or_ge 2 kl with hk3 | hk3
  · have e1 : ((((kl - 1 : Nat) : Int)) == 1) = false := by simp; omega
    go_wp2_with fail
    go_ret
    refine Deleted.yes HL.out.1 ?_
    obtain ⟨hkl, hbl, hxl⟩ := HKl.out
    obtain ⟨hup, hp, ho, hdel, hwdel⟩ := HUp.out
    rw [RT.join_two (by rw [List.length_eraseIdx, if_pos (by omega)]; omega)] at hdel hwdel
    have hd : delO (some t) (idBytes ms seq) = some (K' (.mk b vk (k.eraseIdx r))) := by
      show (if t.kids.isEmpty then none else some (RT.del t (idBytes ms seq))) = _
      rw [if_neg (by simpa using HL.out.2), hdel]
    rw [hd]
    obtain ⟨f1, f2, f3, f4, f5⟩ := HFr.out
    refine del_at (kv' := .slice (some ⟨g6, 0, none⟩) (kl - 1) cap6) hup hp ho (by omega) (by rw [hbl]; exact H7.out.1) (by rw [hkl]; exact H7.out.2.1) ?_ (H7.out.2.2.1.mono fun j hj _ => hj.imp id fun h => by rw [h]; rfl) f1 f2 f3 f4 f5 hwdel
    rcases H7.out.2.2.2 with h | h
    · exact .inl (by rw [h]; rfl)
    · exact .inr ⟨g6, rfl, by omega⟩
  · obtain rfl : kl = 2 := by omega
    obtain ⟨hkl, hbl, hxl⟩ := HKl.out
    obtain ⟨hup, hp, ho, hdel, hwdel⟩ := HUp.out
    obtain ⟨pre, oi, post, hpp, her⟩ := NodesAt.erase hp.2.2.2 r (by omega)
    obtain ⟨u2, hu2⟩ : ∃ u2, k.eraseIdx r = [u2] := List.length_eq_one_iff.1 (by rw [List.length_eraseIdx, if_pos (by omega)]; omega)
    obtain ⟨z2, hz2⟩ : ∃ z2, xs.eraseIdx r = [z2] := List.length_eq_one_iff.1 (by rw [List.length_eraseIdx, if_pos (by omega)]; omega)
    rw [hu2, hz2, NodesAt] at her
    obtain ⟨_, _, o1, o2, he, hn2, hnn, ho2⟩ := her
    cases he
    rw [NodesAt] at hnn
    obtain ⟨_, rfl⟩ := hnn
    obtain ⟨b2, v2, k2⟩ := u2
    obtain ⟨a2, c2, kv2, xs2, rows2, hp2, ho1⟩ := parts_of hn2
    rw [List.append_nil] at ho2
    have hin : ∀ q ∈ (z2 :: ((vblock kv2).toList ++ rows2)), q ∈ rows := fun q hq => by
      rw [← ho1, ← ho2] at hq
      rw [hpp]
      simp only [List.mem_append] at hq ⊢
      exact hq.imp id .inr
    have hnd := hup.sub.2.1
    rw [ho, List.nodup_cons, List.nodup_append] at hnd
    obtain ⟨n1, _, n3, n4⟩ := hnd
    have hnd2 : (z2 :: ((vblock kv2).toList ++ rows2)).Nodup := by
      rw [← ho1, ← ho2]
      rw [hpp, List.nodup_append, List.nodup_append] at n3
      rw [List.nodup_append]
      exact ⟨n3.1, n3.2.1.2.1, fun q hq q' hq' => n3.2.2 q hq q' (by simp [hq'])⟩
    have hb2 : b2 ≠ [] := (HWk.out.1.mem (.mk b2 v2 k2) (List.mem_of_mem_eraseIdx (by rw [hu2]; simp))).1
    have hz2r := hin z2 (by simp)
    have hz2y : z2 ≠ y := fun e => n1 (by simp [← e, hz2r])
    have hz2g : z2 ≠ g1 := fun e => n4 g1 (by simp [vblock]) z2 hz2r e.symm
    have hz7 : w7.heap[z2]? = some (.cells #[.slice a2 b2.length c2, kv2, vC v2] 89 (0, 0)) := H7.out.2.2.1.keep hp2.1 (by rw [not_or]; exact ⟨hz2y, hz2g⟩)
    have hg60 : w7.cell? ⟨g6, 0, none⟩ = some (.pointer (some ⟨z2, 0, none⟩)) := by
      rw [hzf.out, map_eraseIdx, hz2]; rfl
    obtain ⟨bl2, hbl2⟩ : ∃ bl2, b2.length = bl2 := ⟨_, rfl⟩
    have hbl2p : 0 < bl2 := by have := List.length_pos_iff.2 hb2; omega
    rw [hbl2] at hz7
    obtain ⟨a3, c3, rfl, _⟩ := hp2.2.2.1.arg
    obtain ⟨kl2, hkl2⟩ : ∃ kl2, k2.length = kl2 := ⟨_, rfl⟩
    rw [hkl2] at hz7
    have hpl := (hup.plain (by rw [idBytes_length]; exact HT.out.2.1))
    have hble : bl + bl2 ≤ 1000 := by
      have h1 := (hpl.1.kids).1
      have h2 := hpl.2.2.2.2.1
      rw [idBytes_length] at h2
      have h3 := (HWk.out.1.mem (.mk b2 v2 k2) (List.mem_of_mem_eraseIdx (by rw [hu2]; simp))).2.kids.1
      rw [List.length_append] at h1 h2
      omega
    have hpro : ∀ j, ro j → ¬ (j = y ∨ j = g1) := fun j hj hj' => by
      have hyo : y ∈ o := by rw [ho]; simp
      have hgo : g1 ∈ o := by rw [ho]; simp [vblock]
      rcases hj' with rfl | rfl
      · exact (HOwn.out.2 _ (hup.sub.1 _ hyo)).2.1 hj
      · exact (HOwn.out.2 _ (hup.sub.1 _ hgo)).2.1 hj
    obtain ⟨v9, w8, hr9, hs9, hb9⟩ := run_append_fresh (w := w7.drewN 1) (hp.2.1.chg H7.out.2.2.1 hpro).bytes (hp2.2.1.chg H7.out.2.2.1 hpro).bytes hbl hbl2 hbl2p (by omega)
    obtain ⟨g9, cap9, cur9, rfl, hg9, hrow9, _, hcap9, _, _⟩ := hs9.2.resolve_left (by omega)
    have hy8 : w8.heap[y]? = some (.cells #[.slice aa bl cc, .slice (some ⟨g6, 0, none⟩) 1 cap6, vC vk] 89 (0, 0)) := (hb9.block y (heap_lt H7.out.1)).trans H7.out.1
    have hz8 : w8.heap[z2]? = some (.cells #[.slice a2 bl2 c2, .slice a3 kl2 c3, vC v2] 89 (0, 0)) := (hb9.block z2 (heap_lt hz7)).trans hz7
    obtain ⟨w9, hw9⟩ : ∃ w9, w9 = w8.setCell ⟨y, 0, none⟩ (.slice (some ⟨g9, 0, none⟩) (bl + bl2) cap9) := ⟨_, rfl⟩
    have hy9 : w9.heap[y]? = some (.cells #[.slice (some ⟨g9, 0, none⟩) (bl + bl2) cap9, .slice (some ⟨g6, 0, none⟩) 1 cap6, vC vk] 89 (0, 0)) := by rw [hw9]; exact setCell_head hy8 0 _
    have h89 : Chg (fun j => j = y) w8 w9 := by rw [hw9]; exact Chg.setCell _ _ _ _ rfl
    have hz9 := h89.keep hz8 hz2y
    obtain ⟨w10, hw10⟩ : ∃ w10, w10 = (w9.setCell ⟨y, 1, none⟩ (.slice a3 kl2 c3)).drew := ⟨_, rfl⟩
    have hy10 : w10.heap[y]? = some (.cells #[.slice (some ⟨g9, 0, none⟩) (bl + bl2) cap9, .slice a3 kl2 c3, vC vk] 89 (0, 0)) := by rw [hw10]; exact setCell_head hy9 1 _
    have h910 : Chg (fun j => j = y) w9 w10 := by rw [hw10]; exact (Chg.setCell (fun j => j = y) _ _ _ rfl).trans (Chg.drew (fun j => j = y) _) fun _ h _ => h
    have hz10 := h910.keep hz9 hz2y
    obtain ⟨w11, hw11⟩ : ∃ w11, w11 = w10.setCell ⟨y, 2, none⟩ (vC v2) := ⟨_, rfl⟩
    have hy11 : w11.heap[y]? = some (.cells #[.slice (some ⟨g9, 0, none⟩) (bl + bl2) cap9, .slice a3 kl2 c3, vC v2] 89 (0, 0)) := by rw [hw11]; exact setCell_head hy10 2 _
    have h1011 : Chg (fun j => j = y) w10 w11 := by rw [hw11]; exact Chg.setCell _ _ _ _ rfl
    have h811 := (h89.trans h910 fun _ h _ => h).trans h1011 fun _ h _ => h
    have h711 : Chg (fun j => j = y ∨ j = g1) w4 w11 := (H7.out.2.2.1.trans ((Chg.drewN (fun j => j = y) w7 1).trans (Chg.of_below (fun j => j = y) hb9) fun _ h _ => h) fun _ h _ => .inl h).trans h811 fun _ h _ => .inl h
    have hsz7 := H7.out.2.2.1.size
    have hg9' : w7.heap.size ≤ g9 := hg9
    have hs11 := hs9.chg h811 fun j hj e => by have := heap_lt H7.out.1; simp [vblock] at hj; omega
    have hro11 : BytesRo w11 (fun j => j = g9) (some ⟨g9, 0, none⟩) (b ++ b2) cap9 := by
      have := slice_ro hs11
      exact ⟨this.1, this.2.imp id fun ⟨q, e, r1, r2, r3⟩ => ⟨q, e, r1, by simpa [vblock, eq_comm] using r2, r3⟩⟩
    have hfin : ∃ G', TreeF w11 p G' (delO (some t) (idBytes ms seq)) (n - 1) ∧ Fresh w G G' ∧ Chg G w w11 := by
      have hj : join b vk (k.eraseIdx r) = .mk (b ++ b2) v2 k2 := by rw [hu2]; rfl
      rw [hj] at hdel hwdel
      have hd : delO (some t) (idBytes ms seq) = some (K' (.mk (b ++ b2) v2 k2)) := by
        show (if t.kids.isEmpty then none else some (RT.del t (idBytes ms seq))) = _
        rw [if_neg (by simpa using HL.out.2), hdel]
      rw [hd]
      obtain ⟨f1, f2, f3, f4, f5⟩ := HFr.out
      exact del_join (a9 := some ⟨g9, 0, none⟩) (c9 := cap9) (g9 := g9) hup hp ho hp2 hin hnd2 (by rw [List.length_append, hbl, hbl2, hkl2]; exact hy11) hro11 (by omega) (Nat.lt_of_lt_of_le hrow9.lt h811.size) (h711.mono fun j hj _ => hj.imp id fun h => by rw [h]; rfl) f1 f2 f3 f4 f5 hwdel
    have hblc : bl ≤ cc := by have := hp.2.1.1; omega
    have HFin := Lib.hid hfin
    have HR9 := Lib.hid hr9
    have HW9 := Lib.hid hw9
    have HW10 := Lib.hid hw10
    have HW11 := Lib.hid hw11
    have z70 := cell_in hz7 (i := 0) rfl
    have y80 := cell_in hy8 (i := 0) rfl
    have z80 := cell_in hz8 (i := 0) rfl
    have fy8 := frozen_in hy8 0
    have z91 := cell_in hz9 (i := 1) rfl
    have z92 := cell_in hz9 (i := 2) rfl
    have z101 := cell_in hz10 (i := 1) rfl
    have z102 := cell_in hz10 (i := 2) rfl
    have y91 := cell_in hy9 (i := 1) rfl
    have fy9 := frozen_in hy9 1
    have y102 := cell_in hy10 (i := 2) rfl
    have fy10 := frozen_in hy10 2
    clear hfin hro11 hs11 hg9' hsz7 h711 h811 h1011 hy11 hw11 hz10 h910 hy10 hw10 hz9 h89 hy9 hw9 hz8 hy8 hr9 hs9 hb9 hg9 hrow9 hpro hpl hkl2 hbl2 hz7 hz2g hz2r hb2 hnd2 n1 n3 n4 hin ho2 ho1 hp2 hn2 hu2 hz2 hpp hup hp ho hdel hwdel hkl hbl hxl
    go_upto_region 13 with (fail)
    have HF1 := Lib.hid (show w7.drew.cell? ⟨y, 0, none⟩ = some (.slice aa bl cc) ∧ w7.drew.cell? ⟨z2, 0, none⟩ = some (.slice a2 bl2 c2) from ⟨y70, z70⟩)
    have HF2 := Lib.hid (show w8.cell? ⟨y, 0, none⟩ = some (.slice aa bl cc) ∧ w8.cell? ⟨z2, 0, none⟩ = some (.slice a2 bl2 c2) from ⟨y80, z80⟩)
    obtain ⟨X1, f, hX1, hf, hF⟩ := classOf (fun w => w.cell? ⟨y, 0, none⟩ = some (.slice aa bl cc) ∧ w.cell? ⟨z2, 0, none⟩ = some (.slice a2 bl2 c2)) HF1.out
    have hf1 := fun x => (hf x).1
    have hf2 := fun x => (hf x).2
    have HG1 := Lib.hid (hF _ HF1.out)
    have HG2 := Lib.hid (hF _ HF2.out)
    clear hF hf y70 z70
    refine wp_region_text ⟨[20, 23], [], 23⟩ (fun w' => ∃ x : X1, w' = f x) (by kernel_rfl) (by kernel_rfl) HG1.out ?_
    refine wpC_seg false (HG1.out) 20 0 _ _ (by rfl) (by rfl) ?_
    simp only [List.take_succ_cons, List.take_zero, List.drop_succ_cons, List.drop_zero, Bool.false_eq_true, if_false, Nat.zero_add, Nat.reduceAdd]
    repeat (go_big_quiet_step (fail))
    refine wpQuiet_nil ?_
    refine wpC_value (by rfl) (by rfl) (exec_append rfl HR9.out) (fun _ => HG2.out) ?_
    simp only [Act.put, List.setIfInBounds_toArray, List.set_cons_succ, List.set_cons_zero]
    refine wpC_seg false (HG2.out) 2 21 _ _ (by rfl) (by rfl) ?_
    simp only [List.take_succ_cons, List.take_zero, List.drop_succ_cons, List.drop_zero, Bool.false_eq_true, if_false, Nat.zero_add, Nat.reduceAdd]
    repeat (go_big_quiet_step (fail))
    refine wpQuiet_nil ?_
    refine wpC_loud (by rfl) (by rfl) fun K hK => ?_
    go_wp2_with fail
    rw [← HW9.out]
    refine hK _ _ (fun h => absurd h (by decide)) ?_
    refine wpC_nil ?_
    clear hK hf1 hf2 hX1 HF1 HF2 HG1 HG2 f y80 z80 fy8
    go_upto_region 14 with (fail)
    have HF1 := Lib.hid (show (w9.drewN 1).cell? ⟨z2, 1, none⟩ = some (.slice a3 kl2 c3) ∧ (w9.drewN 1).cell? ⟨z2, 2, none⟩ = some (vC v2) from ⟨z91, z92⟩)
    have HF2 := Lib.hid (And.intro z101 z102)
    obtain ⟨X1, f, hX1, hf, hF⟩ := classOf (fun w => w.cell? ⟨z2, 1, none⟩ = some (.slice a3 kl2 c3) ∧ w.cell? ⟨z2, 2, none⟩ = some (vC v2)) HF1.out
    have hf1 := fun x => (hf x).1
    have hf2 := fun x => (hf x).2
    have HG1 := Lib.hid (hF _ HF1.out)
    have HG2 := Lib.hid (hF _ HF2.out)
    clear hF hf z91 z92 z101 z102
    refine wp_region_text ⟨[12, 15], [], 15⟩ (fun w' => ∃ x : X1, w' = f x) (by kernel_rfl) (by kernel_rfl) HG1.out ?_
    refine wpC_seg false (HG1.out) 12 0 _ _ (by rfl) (by rfl) ?_
    simp only [List.take_succ_cons, List.take_zero, List.drop_succ_cons, List.drop_zero, Bool.false_eq_true, if_false, Nat.zero_add, Nat.reduceAdd]
    repeat (go_big_quiet_step (fail))
    refine wpQuiet_nil ?_
    refine wpC_loud (by rfl) (by rfl) fun K hK => ?_
    go_wp2_with fail
    rw [← HW10.out]
    refine hK _ _ (fun _ => HG2.out) ?_
    clear hK
    refine wpC_seg false (HG2.out) 2 13 _ _ (by rfl) (by rfl) ?_
    simp only [List.take_succ_cons, List.take_zero, List.drop_succ_cons, List.drop_zero, Bool.false_eq_true, if_false, Nat.zero_add, Nat.reduceAdd]
    repeat (go_big_quiet_step (fail))
    refine wpQuiet_nil ?_
    refine wpC_loud (by rfl) (by rfl) fun K hK => ?_
    go_wp2_with fail
    rw [← HW11.out]
    refine hK _ _ (fun h => absurd h (by decide)) ?_
    clear hK
    refine wpC_nil ?_
    clear hf1 hf2 hX1 HF1 HF2 HG1 HG2 f
    go_wp2_with fail
    go_ret
    exact Deleted.yes HL.out.1 HFin.out
end Go.Proofs.YtmaemgihhipllaaGreatDoor.Sad

/- radix: Delete; Nodes. -/
namespace Go.Proofs.YtmaemgihhipllaaGreatDoor.Sad
open Go.Proofs.YtmaemgihhipllaaGreatDoor
set_option linter.unusedVariables false
set_option linter.unusedSimpArgs false
open Go.RowKit RT
theorem radDelete {w : World} {p : Nat} {G : Nat → Prop} {T : Option RT} {n : Nat} (h : TreeF w p G T n) {ms seq : Nat} (h1 : ms < 18446744073709551616) (h2 : seq < 18446744073709551616) (hn : n ≤ 1000000000) (hl : lookO T (idBytes ms seq) ≠ none → 0 < n) :
    Calls Tryz.prog 55 #[ptrV p, .agg #[.int .u64 ms, .int .u64 seq]] w (Deleted w p G T n (idBytes ms seq)) := by
  by_cases hs : lookO T (idBytes ms seq) ≠ none → ∃ t, T = some t ∧ t.kids = []
  · exact radDel_small h h1 h2 hn fun hh => ⟨hl hh, hs hh⟩
  · obtain ⟨hh, hno⟩ := Classical.not_imp.1 hs
    cases T with
    | none => exact absurd rfl hh
    | some t =>
      refine radDel_in h h1 h2 hn (hl hh) ?_ fun e => hno ⟨t, rfl, e⟩
      cases hlk : RT.look t (idBytes ms seq) with
      | none => exact absurd hlk hh
      | some v => rfl
theorem RT.nodes_get : ∀ {l : List RT} {i : Nat} (h : i < l.length), RT.nodes l[i] ≤ RT.nodesS l
  | t :: l, 0, _ => by rw [RT.nodesS]; exact Nat.le_add_right _ _
  | t :: l, i + 1, h => by
    have := RT.nodes_get (l := l) (i := i) (by simpa using h)
    rw [RT.nodesS]; simp only [List.getElem_cons_succ]; omega
theorem RT.nodesS_succ : ∀ {l : List RT} {i : Nat} (h : i < l.length), RT.nodesS (l.take (i + 1)) = RT.nodesS (l.take i) + RT.nodes l[i]
  | t :: l, 0, _ => by simp [RT.nodesS]
  | t :: l, i + 1, h => by
    have := RT.nodesS_succ (l := l) (i := i) (by simpa using h)
    simp only [List.take_succ_cons, RT.nodesS, List.getElem_cons_succ, this]
    omega
/-- What the walk reads of the node at place i below. -/
theorem kid_ptr {w : World} {ro : Nat → Prop} {b : List UInt8} {v : VT} {k : List RT} {x : Nat} {own : List Nat} (h : NodeAt w ro (.mk b v k) x own) : ∃ a cap, w.cell? ⟨x, 1, none⟩ = some (.slice a k.length cap) ∧ x < w.heap.size ∧
    ∀ i (hi : i < k.length), ∃ g z oi, a = some ⟨g, 0, none⟩ ∧ w.cell? ⟨g, i, none⟩ = some (.pointer (some ⟨z, 0, none⟩)) ∧ g < w.heap.size ∧ NodeAt w ro k[i] z oi ∧ (∀ q ∈ oi, q ∈ own) ∧ g ∈ own := by
  obtain ⟨a, ca, kv, xs, rows, hp, ho⟩ := parts_of h
  obtain ⟨ak, ck, hkv, _⟩ := hp.2.2.1.arg
  subst hkv
  refine ⟨ak, ck, cell_in hp.1 (i := 1) rfl, heap_lt hp.1, fun i hi => ?_⟩
  obtain ⟨oi, h1, h2⟩ := hp.2.2.2.get i hi
  obtain ⟨g, cap, cur, he, _, hrow, _⟩ := hp.2.2.1.2.resolve_left (by omega)
  cases he
  refine ⟨g, xs.getD i 0, oi, rfl, ?_, hrow.lt, h1, fun q hq => by rw [ho]; simp [h2 q hq], by rw [ho]; simp [vblock]⟩
  rw [SliceIs.two hp.2.2.1 hi]
  have hl := hp.2.2.2.length
  simp [List.getD, show i < xs.length by omega, ptrV]
def nodesO : Option RT → Nat
  | none => 0
  | some t => RT.nodes t
end Go.Proofs.YtmaemgihhipllaaGreatDoor.Sad

/- radix: identifier. -/
namespace Go.Proofs.YtmaemgihhipllaaGreatDoor
set_option linter.unusedVariables false
set_option linter.unusedSimpArgs false
open Go.RowKit
theorem valB_snoc (l : List UInt8) (x : UInt8) : valB (l ++ [x]) = valB l * 256 + x.toNat := by
  rw [valB_append]; simp [valB]
theorem valB_lt64 (l : List UInt8) (h : l.length ≤ 8) : valB l < 18446744073709551616 := by
  have h1 := valB_lt l
  have h2 : 256 ^ l.length ≤ 256 ^ 8 := Nat.pow_le_pow_right (by omega) h
  have h3 : (256 : Nat) ^ 8 = 18446744073709551616 := by decide
  omega
theorem valStep (l : List UInt8) (k : Nat) (h : k < l.length) (h8 : l.length ≤ 8) (c : UInt8) (hc : l.getD k 0 = c) :
    bits .or .u64 (IntKind.u64.wrap ((valB (l.take k) : Nat) * 256)) (IntKind.u64.wrap (c.toNat : Int)) = ((valB (l.take (k + 1)) : Nat) : Int) := by
  have hk : l.take (k + 1) = l.take k ++ [c] := by
    rw [List.take_succ_eq_append_getElem h, ← hc]; simp [List.getD, h]
  have h2 := valB_lt64 (l.take (k + 1)) (by simp; omega)
  have h3 := c.toNat_lt
  rw [hk, valB_snoc] at h2 ⊢
  rw [IntWalk.u64_in _ ⟨by omega, by omega⟩, IntWalk.u64_in _ ⟨by omega, by omega⟩]
  have := u64_or_low (valB (l.take k)) c.toNat (by omega) (by omega)
  rw [show ((valB (l.take k) : Int) * 256) = ((valB (l.take k) * 256 : Nat) : Int) by rw [Int.natCast_mul]; rfl, this]
  congr 1; omega
set_option maxHeartbeats 3200000 in
set_option maxRecDepth 100000 in
theorem ident_any {ms seq : Nat} (h1 : ms < 18446744073709551616) (h2 : seq < 18446744073709551616) {w : World} {b o ca : Nat} (hca : 16 ≤ ca) (hc : ∀ i, i < 16 → w.cell? ⟨b, o + i, none⟩ = some (.int .u8 ((idBytes ms seq).getD i 0).toNat)) :
    Calls Tryz.prog 65 #[.slice (some ⟨b, o, none⟩) 16 ca] w fun e w' => e = .returned (.agg #[.int .u64 ms, .int .u64 seq]) ∧ Below w.heap.size w w' := by
  have HC := Lib.hid hc
  have HV := Lib.hid (And.intro (valB_be ms h1) (valB_be seq h2))
  have hb := World.block_lt_of_cell? w _ (hc 0 (by omega))
  clear hc h1 h2
  go_enter Tryz.func65, Tryz.ntmps65
  go_wp2_with fail
  go_loopw [4] (fun i wr => ∃ (j : Nat) (m s : Nat), j ≤ 8 ∧ i = .int .i64 j ∧ Hid (m = valB ((beB ms 8).take j) ∧ s = valB ((beB seq 8).take j)) ∧ Hid (Below w.heap.size w wr ∧ wr.heap[w.heap.size]? = some (.cells #[.int .u64 m, .int .u64 s] 41 (0, 0)))) (fun i _ => 8 - (intOf i).toNat)
  case atStart => exact ⟨0, 0, 0, by omega, rfl, Lib.hid ⟨rfl, rfl⟩, Lib.hid ⟨(Below.refl _ _).alloc (Nat.le_refl _) _, heap_new _ _⟩⟩
  case round =>
    obtain ⟨j, m, s, hj, rfl, hM, hB⟩ := hrel
    have q0 := cell_in hB.out.2 (i := 0) rfl
    have q1 := cell_in hB.out.2 (i := 1) rfl
    have fr0 := frozen_in hB.out.2 0
    by_cases hlt : j < 8
    · have hx := HC.out j (by omega)
      have hy := HC.out (j + 8) (by omega)
      have hx' : wr.cell? ⟨b, o + j, none⟩ = some (.int .u8 ((beB ms 8).getD j 0).toNat) := by
        rw [hB.out.1.cell (p := ⟨b, o + j, none⟩) hb, hx, show (idBytes ms seq).getD j 0 = (beB ms 8).getD j 0 by simp [idBytes, List.getD, List.getElem?_append_left, hlt]]
      have hy' : wr.cell? ⟨b, o + (j + 8), none⟩ = some (.int .u8 ((beB seq 8).getD j 0).toNat) := by
        rw [hB.out.1.cell (p := ⟨b, o + (j + 8), none⟩) hb, hy, show (idBytes ms seq).getD (j + 8) 0 = (beB seq 8).getD j 0 by simp [idBytes, List.getD, List.getElem?_append_right]]
      obtain ⟨c, hcx⟩ : ∃ c, (beB ms 8).getD j 0 = c := ⟨_, rfl⟩
      obtain ⟨d, hdx⟩ : ∃ d, (beB seq 8).getD j 0 = d := ⟨_, rfl⟩
      rw [hcx] at hx'
      rw [hdx] at hy'
      obtain ⟨m2, hm2⟩ : ∃ m2, valB ((beB ms 8).take (j + 1)) = m2 := ⟨_, rfl⟩
      obtain ⟨s2, hs2⟩ : ∃ s2, valB ((beB seq 8).take (j + 1)) = s2 := ⟨_, rfl⟩
      have st1 := valStep (beB ms 8) j (by simpa using hlt) (by simp) c hcx
      have st2 := valStep (beB seq 8) j (by simpa using hlt) (by simp) d hdx
      rw [← hM.out.1, hm2] at st1
      rw [← hM.out.2, hs2] at st2
      have HN := Lib.hid (And.intro hm2.symm hs2.symm)
      have HS := Lib.hid (And.intro st1 st2)
      clear hx hy hcx hdx hm2 hs2 hM st1 st2
      have hbne : b ≠ w.heap.size := by omega
      obtain ⟨w2, hw2⟩ : ∃ w2, w2 = (wr.setCell ⟨w.heap.size, 0, none⟩ (.int .u64 m2)).drew := ⟨_, rfl⟩
      have h2 : w2.heap[w.heap.size]? = some (.cells #[.int .u64 m2, .int .u64 s] 41 (0, 0)) := by rw [hw2]; exact setCell_head hB.out.2 0 _
      have hb2 : Below w.heap.size w w2 := by rw [hw2]; exact belowN (hB.out.1.setCell (Nat.le_refl _) _) 1
      have r1 := cell_in h2 (i := 1) rfl
      have g1 := frozen_in h2 1
      have hy2 : w2.cell? ⟨b, o + (j + 8), none⟩ = some (.int .u8 d.toNat) := by rw [← hy', hb2.cell (p := ⟨b, o + (j + 8), none⟩) hb, hB.out.1.cell (p := ⟨b, o + (j + 8), none⟩) hb]
      obtain ⟨w3, hw3⟩ : ∃ w3, w3 = (w2.setCell ⟨w.heap.size, 1, none⟩ (.int .u64 s2)).drew := ⟨_, rfl⟩
      have h3 : w3.heap[w.heap.size]? = some (.cells #[.int .u64 m2, .int .u64 s2] 41 (0, 0)) := by rw [hw3]; exact setCell_head h2 1 _
      have hb3 : Below w.heap.size w w3 := by rw [hw3]; exact belowN (hb2.setCell (Nat.le_refl _) _) 1
      have HW2 := Lib.hid hw2
      have HW3 := Lib.hid hw3
      have HB3 := Lib.hid (And.intro hb3 h3)
      obtain ⟨X1, f, hX1, hf, hF⟩ := classOf (fun w' => w'.cell? ⟨w.heap.size, 0, none⟩ = some (.int .u64 m) ∧ w'.cell? ⟨b, o + j, none⟩ = some (.int .u8 c.toNat)) (w := wr.drew) ⟨q0, hx'⟩
      have f1 := fun x => (hf x).1
      have f2 := fun x => (hf x).2
      have HF := Lib.hid (hF wr.drew ⟨q0, hx'⟩)
      obtain ⟨X2, f', hX2, hf', hF'⟩ := classOf (fun w' => w'.cell? ⟨w.heap.size, 1, none⟩ = some (.int .u64 s) ∧ w'.cell? ⟨b, o + (j + 8), none⟩ = some (.int .u8 d.toNat)) (w := w2.drew) ⟨r1, hy2⟩
      have f1' := fun x => (hf' x).1
      have f2' := fun x => (hf' x).2
      have HF' := Lib.hid (hF' w2.drew ⟨r1, hy2⟩)
      clear hf hF hf' hF' hw2 hw3 h2 h3 hb2 hb3 hx' hy'
      go_wp2_with fail
      refine wp_region_text ⟨[10], [], 10⟩ (fun w' => ∃ x : X1, w' = f x) (by kernel_rfl) (by kernel_rfl) HF.out ?_
      refine wpC_seg false (HF.out) 10 0 _ _ (by rfl) (by rfl) ?_
      simp only [List.take_succ_cons, List.take_zero, List.drop_succ_cons, List.drop_zero, Bool.false_eq_true, if_false, Nat.zero_add, Nat.reduceAdd]
      repeat (go_big_quiet_step (fail))
      refine wpQuiet_nil ?_
      refine wpC_loud (by rfl) (by rfl) fun K hK => ?_
      rw [HS.out.1]
      go_wp2_with fail
      rw [← HW2.out]
      refine hK _ _ (fun h => absurd h (by decide)) ?_
      refine wpC_nil ?_
      clear hK f1 f2 hX1 HF
      go_wp2_with fail
      refine wp_region_text ⟨[11], [], 11⟩ (fun w' => ∃ x : X2, w' = f' x) (by kernel_rfl) (by kernel_rfl) HF'.out ?_
      refine wpC_seg false (HF'.out) 11 0 _ _ (by rfl) (by rfl) ?_
      simp only [List.take_succ_cons, List.take_zero, List.drop_succ_cons, List.drop_zero, Bool.false_eq_true, if_false, Nat.zero_add, Nat.reduceAdd]
      repeat (go_big_quiet_step (fail))
      refine wpQuiet_nil ?_
      refine wpC_loud (by rfl) (by rfl) fun K hK => ?_
      rw [HS.out.2]
      go_wp2_with fail
      rw [← HW3.out]
      refine hK _ _ (fun h => absurd h (by decide)) ?_
      refine wpC_nil ?_
      clear hK f1' f2' hX2 HF'
      go_wp2_with fail
      go_roundw
      case rel => exact ⟨j + 1, m2, s2, by omega, by go_num, HN, Lib.hid HB3.out⟩
      case measure => simp [intOf]; omega
    · have : j = 8 := by omega
      subst this
      obtain ⟨rfl, rfl⟩ : m = ms ∧ s = seq := by
        have := hM.out
        rw [List.take_of_length_le (by simp), List.take_of_length_le (by simp), HV.out.1, HV.out.2] at this
        exact this
      have fr1 := frozen_in hB.out.2 1
      have hsz := heap_lt hB.out.2
      go_wp2_with fail
      exact bodyPost_ret (v := .agg #[.int .u64 m, .int .u64 s]) (by simp [results, Tryz.results65, go_sem, q0, q1]) rfl ⟨rfl, (hB.out.1.setCell (by simp) _).setCell (by simp) _⟩
end Go.Proofs.YtmaemgihhipllaaGreatDoor

/- radix: what From collects, in plain Lean and in memory. -/
namespace Go.Proofs.YtmaemgihhipllaaGreatDoor.Sad
open Go.Proofs.YtmaemgihhipllaaGreatDoor
set_option linter.unusedVariables false
set_option linter.unusedSimpArgs false
open Go.RowKit RT
/-- The things from some bytes on. -/
def fromL (L : List UInt8) (l : List (List UInt8 × VT)) : List (List UInt8 × VT) := l.filter fun p => !decide (p.1 < L)
def pref (b : List UInt8) (l : List (List UInt8 × VT)) : List (List UInt8 × VT) := l.map fun p => (b ++ p.1, p.2)
theorem pref_append (a b : List UInt8) (l : List (List UInt8 × VT)) : pref a (pref b l) = pref (a ++ b) l := by
  simp [pref, List.map_map, Function.comp_def]
/-- An entry's cells. -/
def entC (p : List UInt8 × VT) : List Value := [.int .u64 (valB (p.1.take 8) : Nat), .int .u64 (valB (p.1.drop 8) : Nat), vC p.2]
theorem lt_ahead : ∀ {a L : List UInt8} (s : List UInt8), a.length ≤ L.length → a < L.take a.length → a ++ s < L
  | [], L, s, _, h => by simp at h
  | x :: a, [], s, hl, _ => by simp at hl
  | x :: a, y :: L, s, hl, h => by
    simp only [List.length_cons, List.take_succ_cons, List.cons_append] at h ⊢
    rw [List.cons_lt_cons_iff] at h ⊢
    rcases h with h | ⟨rfl, h⟩
    · exact .inl h
    · exact .inr ⟨rfl, lt_ahead s (by simpa using hl) h⟩
theorem fromL_none {L b : List UInt8} (l : List (List UInt8 × VT)) (hl : b.length ≤ L.length) (h : b < L.take b.length) : fromL L (pref b l) = [] := by
  unfold fromL pref
  rw [List.filter_eq_nil_iff]
  intro p hp
  obtain ⟨q, _, rfl⟩ := List.mem_map.1 hp
  simp [lt_ahead q.1 hl h]
theorem fromL_append (L : List UInt8) (a b : List (List UInt8 × VT)) : fromL L (a ++ b) = fromL L a ++ fromL L b := by simp [fromL]
theorem pref_apd (b : List UInt8) (l m : List (List UInt8 × VT)) : pref b (l ++ m) = pref b l ++ pref b m := by simp [pref]
theorem itemsS_succ : ∀ {l : List RT} {i : Nat} (h : i < l.length), RT.itemsS (l.take (i + 1)) = RT.itemsS (l.take i) ++ RT.items l[i]
  | t :: l, 0, _ => by simp [RT.itemsS]
  | t :: l, i + 1, h => by
    have := itemsS_succ (l := l) (i := i) (by simpa using h)
    simp only [List.take_succ_cons, RT.itemsS, List.getElem_cons_succ, this, List.append_assoc]
theorem items_le {u : RT} : (RT.items u).length ≤ RT.nodes u := key u.nodes u (Nat.le_refl _)
where
  key : ∀ (m : Nat) (u : RT), RT.nodes u ≤ m → (RT.items u).length ≤ RT.nodes u
  | 0, .mk b v k, h => by rw [RT.nodes] at h; omega
  | m + 1, .mk b v k, h => by
    rw [RT.items]
    rw [RT.nodes] at h ⊢
    split
    · simp
    · rw [List.length_map]
      have : ∀ l : List RT, RT.nodesS l ≤ m → (RT.itemsS l).length ≤ RT.nodesS l := by
        intro l
        induction l with
        | nil => simp [RT.itemsS]
        | cons t l ih =>
          intro hl
          simp only [RT.nodesS] at hl ⊢
          rw [RT.itemsS, List.length_append]
          have h1 := key m t (by omega)
          have h2 := ih (by omega)
          omega
      have := this k (by omega)
      omega
theorem valB_inj {a b : List UInt8} (hl : a.length = b.length) (h : valB a = valB b) : a = b := by
  have h1 : ¬ a < b := fun h' => by have := (lt_valB hl).1 h'; omega
  have h2 : ¬ b < a := fun h' => by have := (lt_valB hl.symm).1 h'; omega
  exact List.le_antisymm (List.not_lt.1 h2) (List.not_lt.1 h1)
theorem be_valB {a : List UInt8} (h : a.length = 8) : beB (valB a) 8 = a := by
  have hlt := valB_lt64 a (by omega)
  exact valB_inj (by simp [h]) (valB_be _ hlt)
theorem id_valB {a : List UInt8} (h : a.length = 16) : idBytes (valB (a.take 8)) (valB (a.drop 8)) = a := by
  unfold idBytes
  rw [be_valB (by simp; omega), be_valB (by simp; omega), List.take_append_drop]
/-- 'append(begin[:len(begin):len(begin)], x.begin...)'. -/
theorem append_begin {w : World} {a ax : Option Addr} {pre b : List UInt8} {n m c cx : Nat} (hp : BytesIn w a pre c) (hb : BytesIn w ax b cx) (hn : pre.length = n) (hm : b.length = m) (hle : n + m ≤ 100000) (hz : pre = [] → a = none) (h0 : pre = [] ∨ b ≠ []) :
    ∃ a2 c2 w1, (Builtin.append_ #[82, 82] 82 #[.slice a n n, .slice ax m cx]).run Tryz.prog w = .ok (.slice a2 (n + m) c2) w1 ∧ Below w.heap.size w w1 ∧ BytesIn w1 a2 (pre ++ b) c2 ∧ (∀ g o, a2 = some ⟨g, o, none⟩ → w.heap.size ≤ g) ∧ (pre ++ b = [] → a2 = none) := by
  rcases Nat.eq_zero_or_pos m with h | h
  · have hb0 : b = [] := List.eq_nil_of_length_eq_zero (by omega)
    have hp0 : pre = [] := h0.resolve_right fun h => h hb0
    subst hb0 hp0
    have := hz rfl
    subst this
    have hn0 : n = 0 := by simpa using hn.symm
    subst hn0
    subst h
    obtain ⟨i0, g1, g2, g3, g4⟩ := info_parts info_u8
    refine ⟨none, 0, w, ?_, Below.refl _ _, ⟨by simp, .inl rfl⟩, fun g o h => (by cases h), fun _ => rfl⟩
    cases ax with
    | none => simp [Builtin.append_, run_underlying Tryz.underlying82, sizeOf, typeInfo, g1, g2, g3, g4, Builtin.lenOf, Builtin.firstCells]
    | some A =>
      have hL := run_loadCells_list (P := Tryz.prog) w A [] (by simp)
      rw [List.length_nil] at hL
      simp [Builtin.append_, run_underlying Tryz.underlying82, sizeOf, typeInfo, g1, g2, g3, g4, Builtin.lenOf, Builtin.firstCells, hL]
  · obtain ⟨v', w', hr, hs, hbl⟩ := run_append_fresh hp hb hn hm h (by omega)
    obtain ⟨a2, c2, rfl, hbi⟩ := slice_bytes hs
    obtain ⟨g', cap', cur', he, hg', _⟩ := hs.2.resolve_left (by simp; omega)
    cases he
    refine ⟨_, _, w', hr, hbl, hbi, fun g o h => by cases h; exact hg', fun h => ?_⟩
    have := congrArg List.length h
    rw [List.length_append, List.length_nil] at this
    omega
end Go.Proofs.YtmaemgihhipllaaGreatDoor.Sad

/- radix: From's inner walk. -/
namespace Go.Proofs.YtmaemgihhipllaaGreatDoor.Sad
open Go.Proofs.YtmaemgihhipllaaGreatDoor
set_option linter.unusedVariables false
set_option linter.unusedSimpArgs false
open Go.RowKit RT
theorem conv_any {w : World} {a : Option Addr} {xs : List UInt8} {n c : Nat} (h : BytesIn w a xs c) (hn : xs.length = n) : (convert 82 9 (.slice a n c)).run Tryz.prog w = .ok (.string (strOf xs)) w := by
  rcases Nat.eq_zero_or_pos n with h0 | h0
  · have hx : xs = [] := List.eq_nil_of_length_eq_zero (by omega)
    subst hx
    subst h0
    rw [run_convert_bytes_string w _ _ 5 _ _ _ Tryz.underlying82 Tryz.underlying5 Tryz.underlying9]
    cases a with
    | none => rfl
    | some A =>
      have hL := run_loadCells_list (P := Tryz.prog) w A [] (by simp)
      rw [List.length_nil] at hL
      rw [run_bytesToString (ns := []) w A 0 c hL]
      rfl
  · obtain ⟨b, o, rfl, hc⟩ := h.2.resolve_left (by omega)
    exact run_string_row w _ _ 5 Tryz.underlying82 Tryz.underlying5 Tryz.underlying9 b o n c xs hn fun i hi => by rw [hc i hi]; simp [List.getD, hi]
theorem info_ent : (Tryz.prog.info? 92).map (fun i => (i.zero.map fun z => z.cells.size, i.size)) = some (some 3, 3) := by kernel_rfl
/-- What the inner walk leaves. -/
def Walked (w : World) (Bl B0 : Nat) (lv : Value) (ents new : List (List UInt8 × VT)) (e : Ending) (w' : World) : Prop :=
  e = .returned (.tuple #[]) ∧ ∃ lv', w'.heap[Bl]? = some (.cells #[lv'] 84 (0, 0)) ∧ SliceN w' B0 92 3 lv' (ents ++ new).length ((ents ++ new).flatMap entC) ∧
    Chg (fun k => k = Bl ∨ vblock lv = some k) w w' ∧ (vblock lv' = vblock lv ∨ ∃ g, vblock lv' = some g ∧ w.heap.size ≤ g)
theorem Walked.none {w w' : World} {Bl B0 : Nat} {lv : Value} {ents : List (List UInt8 × VT)} (hl : w.heap[Bl]? = some (.cells #[lv] 84 (0, 0))) (hs : SliceN w B0 92 3 lv ents.length (ents.flatMap entC)) (hb : Below w.heap.size w w') : Walked w Bl B0 lv ents [] (.returned (.tuple #[])) w' := by
  refine ⟨rfl, lv, (hb.block Bl (heap_lt hl)).trans hl, ?_, Chg.of_below _ hb, .inl rfl⟩
  rw [List.append_nil]
  exact hs.below hb
theorem items_pref (b : List UInt8) (v : VT) (k : List RT) : ∃ L0, RT.items (.mk b v k) = pref b L0 := by
  rw [RT.items]
  split
  · exact ⟨[([], v)], by simp [pref]⟩
  · exact ⟨_, rfl⟩
theorem info_ent2 : ∃ i0 z0, Tryz.prog.info? 92 = some i0 ∧ i0.zero = some z0 ∧ z0.cells.size = 3 ∧ i0.size = 3 ∧ i0.bytes ≤ 1000 := by
  have h : (Tryz.prog.info? 92).map (fun i => (i.zero.map fun z => z.cells.size, i.size, decide (i.bytes ≤ 1000))) = some (some 3, 3, true) := by kernel_rfl
  cases hi : Tryz.prog.info? 92 with
  | none => rw [hi] at h; cases h
  | some i0 =>
    rw [hi] at h
    simp only [Option.map_some, Option.some.injEq, Prod.mk.injEq, decide_eq_true_eq] at h
    obtain ⟨h1, h2, h3⟩ := h
    cases hz : i0.zero with
    | none => rw [hz] at h1; cases h1
    | some z0 =>
      rw [hz] at h1
      exact ⟨i0, z0, rfl, hz, by simpa using h1, h2, h3⟩
theorem fromL_le (L p : List UInt8) : ∀ l : List RT, (fromL L (pref p (RT.itemsS l))).length ≤ RT.nodesS l := by
  have h : ∀ l : List RT, (RT.itemsS l).length ≤ RT.nodesS l := by
    intro l
    induction l with
    | nil => simp [RT.itemsS]
    | cons t l ih => rw [RT.itemsS, RT.nodesS, List.length_append]; have := @items_le t; omega
  intro l
  have h1 := List.length_filter_le (fun p : List UInt8 × VT => !decide (p.1 < L)) (pref p (RT.itemsS l))
  have h2 := h l
  unfold fromL
  simp only [pref, List.length_map] at h1 ⊢
  omega
set_option maxHeartbeats 6400000 in
set_option maxRecDepth 100000 in
theorem radWalk {lst : List UInt8} (hL : lst.length = 16) {Bs Bl Bw B0 : Nat} (hBs : Bs < B0) (hBl : Bl < B0) (hBw : Bw < B0) (hsl : Bs ≠ Bl) (hwl : Bw ≠ Bl) : ∀ (m : Nat) {w : World} {ro : Nat → Prop} {u : RT} {x : Nat} {own : List Nat} {pre : List UInt8} {a : Option Addr} {n ca : Nat} {lv : Value} {ents : List (List UInt8 × VT)},
    RT.nodes u ≤ m → NodeAt w ro u x own → WF (16 - pre.length) u → pre.length = n → n ≤ 16 → (pre = [] ∨ u.begin ≠ []) → (∀ q, q ∈ own ∨ ro q → q < B0 ∧ q ≠ Bl) → BytesIn w a pre ca → (pre = [] → a = none) → (∀ g o, a = some ⟨g, o, none⟩ → g ≠ Bl ∧ vblock lv ≠ some g) →
    w.cell? ⟨Bs, 0, none⟩ = some (.string (strOf lst)) → w.cell? ⟨Bw, 0, none⟩ = some (.func (.func 64) #[] #[.pointer (some ⟨Bs, 0, none⟩), .pointer (some ⟨Bl, 0, none⟩), .pointer (some ⟨Bw, 0, none⟩)]) →
    w.heap[Bl]? = some (.cells #[lv] 84 (0, 0)) → SliceN w B0 92 3 lv ents.length (ents.flatMap entC) → ents.length + RT.nodes u ≤ 10000000 → B0 ≤ w.heap.size →
    Calls Tryz.prog 64 #[ptrV x, .slice a n ca, .pointer (some ⟨Bs, 0, none⟩), .pointer (some ⟨Bl, 0, none⟩), .pointer (some ⟨Bw, 0, none⟩)] w (Walked w Bl B0 lv ents (fromL lst (pref pre (RT.items u))))
  | 0, w, ro, .mk b v k, x, own, pre, a, n, ca, lv, ents, hm, _, _, _, _, _, _, _, _, _, _, _, _, _, _, _ => by rw [RT.nodes] at hm; omega
  | m + 1, w, ro, .mk b v k, x, own, pre, a, n, ca, lv, ents, hm, h, hwf, hn, hn16, hpre, hdis, ha, haz, hag, cs, cw, hl, hs, hcnt, hB0 => by
    obtain ⟨ax, cx, kv, xs, rows, hp, ho⟩ := parts_of h
    obtain ⟨k1, k2, k3, k4⟩ := hwf.kids
    obtain ⟨bl, hbl⟩ : ∃ bl, b.length = bl := ⟨_, rfl⟩
    have hp1 := hp.1
    rw [hbl] at hp1
    have x0 := cell_in hp1 (i := 0) rfl
    have hxlt := heap_lt hp1
    obtain ⟨a2, c2, w1, hr1, hb1, hbi1, hfr1, hz1⟩ := append_begin (w := w.drewN 1) (pre := pre) (b := b) (n := n) (m := bl) (ax := ax) (cx := cx) (c := ca) ha hp.2.1.bytes hn hbl (by omega) haz hpre
    obtain ⟨pre2, hpre2⟩ : ∃ pre2, pre ++ b = pre2 := ⟨_, rfl⟩
    obtain ⟨n2, hn2⟩ : ∃ n2, n + bl = n2 := ⟨_, rfl⟩
    rw [hpre2] at hbi1 hz1
    rw [hn2] at hr1
    have hl2 : pre2.length = n2 := by rw [← hpre2, List.length_append]; omega
    have hn216 : n2 ≤ 16 := by omega
    have hca : n ≤ ca := by have := ha.1; omega
    -- the second region
    have hb01 : Below w.heap.size w w1 := (belowN (Below.refl _ _) 1).trans hb1
    have hBsw : Bs < w.heap.size := by omega
    have s1 : w1.cell? ⟨Bs, 0, none⟩ = some (.string (strOf lst)) := (hb01.cell (p := ⟨Bs, 0, none⟩) hBsw).trans cs
    have hcv : (convert 82 9 (.slice a2 n2 c2)).run Tryz.prog w1.drew = .ok (.string (strOf pre2)) w1.drew := conv_any (w := w1.drew) hbi1 hl2
    obtain ⟨bb, hbb⟩ : ∃ bb, Op.bytesLess (strOf pre2).toList ((strOf lst).extract 0 n2).toList = bb := ⟨_, rfl⟩
    have hbb2 : bb = decide (pre2 < lst.take n2) := by
      rw [← hbb, ByteArray.toList_eq, ByteArray.toList_eq, bytesLess_eq]
      congr 1
      rw [strOf_data]
      have : ((strOf lst).extract 0 n2).data.toList = lst.take n2 := by
        simp [strOf, ByteArray.data_extract]
      rw [this]
    obtain ⟨S1, hS1⟩ : ∃ S1, strOf pre2 = S1 := ⟨_, rfl⟩
    obtain ⟨S2, hS2⟩ : ∃ S2, strOf lst = S2 := ⟨_, rfl⟩
    have hS2s : S2.size = 16 := by rw [← hS2]; simp [hL]
    rw [hS1, hS2] at hbb
    rw [hS1] at hcv
    rw [hS2] at s1
    obtain ⟨X1, f, hX1, hf, hF⟩ := classOf (fun w' => w'.cell? ⟨x, 0, none⟩ = some (.slice ax bl cx)) (w := w.drew) x0
    have HF := Lib.hid (hF w.drew x0)
    obtain ⟨X2, f', hX2, hf', hF'⟩ := classOf (fun w' => w'.cell? ⟨Bs, 0, none⟩ = some (.string S2) ∧ (convert 82 9 (.slice a2 n2 c2)).run Tryz.prog w' = .ok (.string S1) w') (w := w1.drew) ⟨s1, hcv⟩
    have f1' := fun x => (hf' x).1
    have f2' := fun x => (hf' x).2
    have HF' := Lib.hid (hF' w1.drew ⟨s1, hcv⟩)
    have HR1 := Lib.hid hr1
    have HM := Lib.hid (And.intro hm (And.intro h (And.intro hwf (And.intro hdis (And.intro cs (And.intro cw (And.intro hl (And.intro hs hcnt))))))))
    have HW1 := Lib.hid (And.intro hb1 (And.intro hb01 (And.intro hbi1 (And.intro hfr1 (And.intro hz1 (And.intro hl2 hpre2))))))
    have HK := Lib.hid (And.intro k1 (And.intro k2 (And.intro k3 (And.intro k4 hbl))))
    have HP := Lib.hid (And.intro hn (And.intro hag hbb2))
    have HBB := Lib.hid hbb
    have HX := Lib.hid hp1
    clear hF hF' hf' hr1 h hwf hdis cs cw hl hs hp hp1 hb1 hb01 hbi1 hfr1 hz1 hl2 hpre2 k1 k2 k3 k4 hbl hn hag hbb2 hpre haz ha hS1 hS2 s1 hcv hm hcnt hBsw hbb
    unfold ptrV
    go_enter Tryz.func64, Tryz.ntmps64
    go_wp2_with fail
    refine wp_region_text ⟨[10], [11], 10⟩ (fun w' => ∃ x : X1, w' = f x) (by kernel_rfl) (by kernel_rfl) HF.out ?_
    refine wpC_seg false (HF.out) 10 0 _ _ (by rfl) (by rfl) ?_
    simp only [List.take_succ_cons, List.take_zero, List.drop_succ_cons, List.drop_zero, Bool.false_eq_true, if_false, Nat.zero_add, Nat.reduceAdd]
    repeat (go_big_quiet_step (fail))
    refine wpQuiet_nil ?_
    refine wpC_value (by rfl) (by rfl) (exec_append rfl HR1.out) (fun h => absurd h (by decide)) ?_
    simp only [Act.put, List.setIfInBounds_toArray, List.set_cons_succ, List.set_cons_zero]
    refine wpC_segD 1 11 _ _ (by rfl) (by rfl) ?_
    simp only [List.take_succ_cons, List.take_zero, List.drop_succ_cons, List.drop_zero, if_true, Nat.zero_add, Nat.reduceAdd]
    repeat (go_big_quiet_step (fail))
    refine wpQuiet_nil ?_
    refine wpC_nil ?_
    clear hf hX1 HF f x0
    go_upto_region 1 with (fail)
    refine wp_region_text ⟨[], [], 7⟩ (fun w' => ∃ x : X2, w' = f' x) (by kernel_rfl) (by kernel_rfl) HF'.out ?_
    refine wpC_seg false (HF'.out) 7 0 _ _ (by rfl) (by rfl) ?_
    simp only [List.take_succ_cons, List.take_zero, List.drop_succ_cons, List.drop_zero, Bool.false_eq_true, if_false, Nat.zero_add, Nat.reduceAdd]
    repeat (go_big_quiet_step (fail))
    refine wpQuiet_nil ?_
    refine wpC_nil ?_
    clear f1' f2' hX2 HF' f'
    rw [HBB.out]
    have hst2 := HP.out.2.2
    rcases Bool.eq_false_or_eq_true bb with hb | hb
    · subst hb
      have hlt : pre2 < lst.take n2 := by simpa using hst2
      clear hst2
      go_wp2_with fail
      go_end0
      obtain ⟨hm, h, hwf, hdis, cs, cw, hl, hs, hcnt⟩ := HM.out
      obtain ⟨hb1, hb01, hbi1, hfr1, hz1, hl2, hpre2⟩ := HW1.out
      obtain ⟨L0, hL0⟩ := items_pref b v k
      have hnil : fromL lst (pref pre (RT.items (.mk b v k))) = [] := by
        rw [hL0, pref_append, hpre2]
        exact fromL_none L0 (by omega) (by rw [hl2]; exact hlt)
      rw [hnil]
      exact Walked.none hl hs (belowN hb01 _)
    · subst hb
      have hnlt : ¬ pre2 < lst.take n2 := by simpa using hst2
      clear hst2
      obtain ⟨k1, k2, k3, k4, hbl⟩ := HK.out
      have hn := HP.out.1
      rcases Decidable.em (k = []) with hk | hk
      · subst hk
        have hn2e : n2 = 16 := by have := k2 rfl; omega
        subst hn2e
        obtain ⟨hm, h, hwf, hdis, cs, cw, hl, hs, hcnt⟩ := HM.out
        obtain ⟨hb1, hb01, hbi1, hfr1, hz1, hl2, hpre2⟩ := HW1.out
        obtain ⟨ms, hms⟩ : ∃ ms, valB (pre2.take 8) = ms := ⟨_, rfl⟩
        obtain ⟨sq, hsq⟩ : ∃ sq, valB (pre2.drop 8) = sq := ⟨_, rfl⟩
        have hid := id_valB hl2
        rw [hms, hsq] at hid
        obtain ⟨g2, o2, rfl, hc2⟩ := hbi1.2.resolve_left (by omega)
        have hmslt : ms < 18446744073709551616 := by rw [← hms]; exact valB_lt64 _ (by simp; omega)
        have hsqlt : sq < 18446744073709551616 := by rw [← hsq]; exact valB_lt64 _ (by simp; omega)
        have hms0 := hms
        have hsq0 := hsq
        have HId := Lib.hid (fun d => ident_any hmslt hsqlt (w := w1.drewN d) (b := g2) (o := o2) (ca := c2) (by have := hbi1.1; omega) fun i hi => by rw [hid]; exact hc2 i (by omega))
        have hlw := heap_lt hl
        obtain ⟨al, cl, rfl, _, _⟩ := hs.form
        obtain ⟨nl, hnl⟩ : ∃ nl, ents.length = nl := ⟨_, rfl⟩
        have hl1 : w1.heap[Bl]? = some (.cells #[.slice al nl cl] 84 (0, 0)) := by rw [← hnl]; exact (hb01.block Bl hlw).trans hl
        have hx1 : w1.heap[x]? = some (.cells #[.slice ax bl cx, kv, vC v] 89 (0, 0)) := (hb01.block x hxlt).trans HX.out
        have l1 := cell_in hl1 (i := 0) rfl
        have x2 := cell_in hx1 (i := 2) rfl
        obtain ⟨X3, f3, hX3, hf3, hF3⟩ := classOf (fun w' => w'.cell? ⟨Bl, 0, none⟩ = some (.slice al nl cl) ∧ w'.cell? ⟨x, 2, none⟩ = some (vC v)) (w := w1.drew) ⟨l1, x2⟩
        have g1' := fun x => (hf3 x).1
        have g2' := fun x => (hf3 x).2
        have HF3 := Lib.hid (fun w' h => hF3 w' h)
        have HF3a := Lib.hid (hF3 (w1.drewN 2) ⟨l1, x2⟩)
        clear hF3 hf3 h hwf hdis cs cw hl hs hb1 hb01 hbi1 hfr1 hz1 hms hsq hid hc2 hmslt hsqlt
        go_upto_region 3 with (fail)
        refine wp_region_text ⟨[2, 8, 9, 10], [], 10⟩ (fun w' => ∃ x : X3, w' = f3 x) (by kernel_rfl) (by kernel_rfl) HF3a.out ?_
        refine wpC_seg false (HF3a.out) 2 0 _ _ (by rfl) (by rfl) ?_
        simp only [List.take_succ_cons, List.take_zero, List.drop_succ_cons, List.drop_zero, Bool.false_eq_true, if_false, Nat.zero_add, Nat.reduceAdd]
        repeat (go_big_quiet_step (fail))
        refine wpQuiet_nil ?_
        refine wpC_loud (by rfl) (by rfl) fun K hK => ?_
        go_wp2_with fail
        refine (HId.out 2).mono ?_
        rintro e w2 ⟨rfl, hb2⟩
        obtain ⟨hm, h, hwf, hdis, cs, cw, hl, hs, hcnt⟩ := HM.out
        obtain ⟨hb1, hb01, hbi1, hfr1, hz1, hl2, hpre2⟩ := HW1.out
        have hb02 := (belowN hb01 2).trans (hb2.mono hb01.size)
        have l2 : w2.cell? ⟨Bl, 0, none⟩ = some (.slice al nl cl) := (hb2.cell (p := ⟨Bl, 0, none⟩) (heap_lt hl1)).trans l1
        have x22 : w2.cell? ⟨x, 2, none⟩ = some (vC v) := (hb2.cell (p := ⟨x, 2, none⟩) (heap_lt hx1)).trans x2
        have HC2 := Lib.hid (HF3.out w2 ⟨l2, x22⟩)
        obtain ⟨i0, z0, q1, q2, q3, q4, q5⟩ := info_ent2
        rw [hnl] at hs
        have hcnt2 : nl + 1 ≤ 10000000 := by
          have h1 : 1 ≤ RT.nodes (.mk b v []) := by rw [RT.nodes]; omega
          omega
        obtain ⟨lv', w4, hr4, hs4, hc4, hv4⟩ := run_append_oneN (P := Tryz.prog) (t := 84) (ty := 84) (z := 3) (w := w2) Tryz.underlying84 q1 q2 q4 rfl q3 (hs.below hb02) (by have := hb02.size; omega) [.int .u64 ms, .int .u64 sq, vC v] rfl (by simp [Value.oneCell']) (by unfold maxLen; omega) (Nat.le_trans (Nat.mul_le_mul hcnt2 q5) (by omega))
        obtain ⟨al', cl', rfl, _, _⟩ := hs4.form
        have hvb : ∀ g, vblock (.slice al nl cl) = some g → B0 ≤ g ∧ g < w.heap.size := fun g hg => hs.block_lt hg
        have hbw2 : Below w2.heap.size w2 (w2.alloc (.cells #[.int .u64 ms, .int .u64 sq, vC v] 92)) := (Below.refl _ _).alloc (Nat.le_refl _) _
        have l3 : (w2.alloc (.cells #[.int .u64 ms, .int .u64 sq, vC v] 92)).cell? ⟨Bl, 0, none⟩ = some (.slice al nl cl) := (hbw2.cell (p := ⟨Bl, 0, none⟩) (World.block_lt_of_cell? w2 _ l2)).trans l2
        have x23 : (w2.alloc (.cells #[.int .u64 ms, .int .u64 sq, vC v] 92)).cell? ⟨x, 2, none⟩ = some (vC v) := (hbw2.cell (p := ⟨x, 2, none⟩) (World.block_lt_of_cell? w2 _ x22)).trans x22
        have HC3 := Lib.hid (HF3.out _ ⟨l3, x23⟩)
        have hh2 : w2.heap[Bl]? = some (.cells #[.slice al nl cl] 84 (0, 0)) := (hb2.block Bl (heap_lt hl1)).trans hl1
        have hh4 : w4.heap[Bl]? = some (.cells #[.slice al nl cl] 84 (0, 0)) := hc4.keep hh2 fun e => by have := hvb _ e; omega
        have hx4 : w4.heap[x]? = some (.cells #[.slice ax bl cx, kv, vC v] 89 (0, 0)) := hc4.keep ((hb2.block x (heap_lt hx1)).trans hx1) fun e => by have := hvb _ e; have := hdis x (.inl (by obtain ⟨_, _, _, _, _, _, ho⟩ := parts_of h; rw [ho]; simp)); omega
        have l4 := cell_in hh4 (i := 0) rfl
        have f4 := frozen_in hh4 0
        have x24 := cell_in hx4 (i := 2) rfl
        have HC4 := Lib.hid (HF3.out w4 ⟨l4, x24⟩)
        obtain ⟨w5, hw5⟩ : ∃ w5, w5 = w4.setCell ⟨Bl, 0, none⟩ (.slice al' (nl + 1) cl') := ⟨_, rfl⟩
        have hc45 : Chg (fun j => j = Bl) w4 w5 := by rw [hw5]; exact Chg.setCell _ _ _ _ rfl
        have hl5 : w5.heap[Bl]? = some (.cells #[.slice al' (nl + 1) cl'] 84 (0, 0)) := by rw [hw5]; exact setCell_head hh4 0 _
        have hx5 : w5.heap[x]? = some (.cells #[.slice ax bl cx, kv, vC v] 89 (0, 0)) := hc45.keep hx4 (hdis x (.inl (by obtain ⟨_, _, _, _, _, _, ho⟩ := parts_of h; rw [ho]; simp))).2
        have hfin : ∀ d, Walked w Bl B0 (.slice al nl cl) ents (fromL lst (pref pre (RT.items (.mk b v [])))) (.returned (.tuple #[])) (w5.drewN d) := fun d => by
          have hkv0 : fromL lst (pref pre (RT.items (.mk b v []))) = [(pre2, v)] := by
            rw [show RT.items (.mk b v []) = [(b, v)] by rw [RT.items]; rfl]
            simp only [pref, List.map_cons, List.map_nil, hpre2, fromL]
            rw [List.filter_cons_of_pos (by
              have : lst.take 16 = lst := List.take_of_length_le (by omega)
              rw [this] at hnlt
              simpa using hnlt)]
            rfl
          rw [hkv0]
          refine ⟨rfl, _, hl5, ?_, ?_, ?_⟩
          · have e1 : (ents ++ [(pre2, v)]).length = nl + 1 := by simp [hnl]
            have e2 : (ents ++ [(pre2, v)]).flatMap entC = ents.flatMap entC ++ [.int .u64 ms, .int .u64 sq, vC v] := by simp [entC, hms0, hsq0]
            rw [e1, e2]
            have := hs4.chg hc45 fun j hj e => by have := (hs4.block_lt hj).1; omega
            exact this
          · refine (((Chg.of_below (fun j => j = Bl ∨ vblock (.slice al nl cl) = some j) hb02).trans hc4 fun j hj _ => .inr hj).trans hc45 fun j hj _ => .inl hj).trans (Chg.drewN (fun j => j = Bl ∨ vblock (.slice al nl cl) = some j) _ d) fun _ h _ => h
          · exact hv4.imp id fun ⟨g, h1, h2⟩ => ⟨g, h1, by have := hb02.size; omega⟩
        have HNl := Lib.hid hnl
        have HFin := Lib.hid hfin
        have HR4 := Lib.hid hr4
        have HW5 := Lib.hid hw5
        have x51 := cell_in hx5 (i := 1) rfl
        obtain ⟨akv, ckv, hkv⟩ : ∃ a c, kv = .slice a 0 c := by
          obtain ⟨ax', cx', kv', xs', rows', hp', _⟩ := parts_of h
          have e := hp'.1.symm.trans HX.out
          simp only [Option.some.injEq, Obj.cells.injEq, Array.mk.injEq, List.cons.injEq] at e
          obtain ⟨a', c', he, _⟩ := hp'.2.2.1.arg
          exact ⟨a', c', e.1.2.1.symm.trans he⟩
        subst hkv
        clear hfin hr4 hw5 hl5 hx5 hc45 hx4 hh4 hh2 hvb hs4 hc4 hv4 hb2 hb02 h hwf hdis cs cw hl hs hb1 hb01 hbi1 hfr1 hz1 q1 q2 q3 q4 hbw2 hl1 hx1 l2 x22 l3 x23 x24
        refine hK _ _ (fun _ => HC2.out) ?_
        clear hK
        refine wpC_seg false (HC2.out) 5 3 _ _ (by rfl) (by rfl) ?_
        simp only [List.take_succ_cons, List.take_zero, List.drop_succ_cons, List.drop_zero, Bool.false_eq_true, if_false, Nat.zero_add, Nat.reduceAdd]
        repeat (go_big_quiet_step (fail))
        refine wpQuiet_nil ?_
        refine wpC_loud (by rfl) (by rfl) fun K' hK' => ?_
        go_wp2_with fail
        refine hK' _ _ (fun _ => HC3.out) ?_
        clear hK'
        refine wpC_value (by rfl) (by rfl) (exec_append rfl HR4.out) (fun _ => HC4.out) ?_
        simp only [Act.put, List.setIfInBounds_toArray, List.set_cons_succ, List.set_cons_zero]
        refine wpC_loud (by rfl) (by rfl) fun K' hK' => ?_
        go_wp2_with fail
        rw [← HW5.out]
        refine hK' _ _ (fun h => absurd h (by decide)) ?_
        clear hK'
        refine wpC_nil ?_
        clear g1' g2' hX3 HC2 HC3 HC4 HF3 HF3a f3 l4 f4
        go_wp2_with fail
        go_loopw [45] (fun i wr => i = .int .i64 0 ∧ ∃ d, wr = w5.drewN d) (fun _ _ => 0)
        case atStart => exact ⟨rfl, 0, rfl⟩
        case round =>
          obtain ⟨rfl, d, rfl⟩ := hrel
          go_wp2_with fail
          go_end0
          rw [HNl.out]
          exact HFin.out _
      · obtain ⟨hm, h, hwf, hdis, cs, cw, hl, hs, hcnt⟩ := HM.out
        obtain ⟨hb1, hb01, hbi1, hfr1, hz1, hl2, hpre2⟩ := HW1.out
        have hn2l : n2 < 16 := by have := (k3 hk).2.2; omega
        have e16 : ((n2 : Int) == 16) = false := by simp; omega
        have hnn : RT.nodes (.mk b v k) = 1 + RT.nodesS k := by rw [RT.nodes]
        rw [hnn] at hm hcnt
        obtain ⟨akv, ckv, x1, _, hkids⟩ := kid_ptr h
        have x1' : w1.cell? ⟨x, 1, none⟩ = some (.slice akv k.length ckv) := (hb01.cell (p := ⟨x, 1, none⟩) hxlt).trans x1
        have hl1 : w1.heap[Bl]? = some (.cells #[lv] 84 (0, 0)) := (hb01.block Bl (heap_lt hl)).trans hl
        have hvb : ∀ g, vblock lv = some g → B0 ≤ g ∧ g < w.heap.size := fun g hg => hs.block_lt hg
        have hnle : ∀ i, RT.nodesS (k.take i) ≤ RT.nodesS k := fun i => by
          have : ∀ (l : List RT) (i : Nat), RT.nodesS (l.take i) ≤ RT.nodesS l := by
            intro l
            induction l with
            | nil => intro i; simp
            | cons t l ih =>
              intro i
              cases i with
              | zero => simp [RT.nodesS]
              | succ i => simp only [List.take_succ_cons, RT.nodesS]; have := ih i; omega
          exact this k i
        have hw4 : WFS (16 - n2) k := by
          have := k4
          rw [hbl, hn, show 16 - n - bl = 16 - n2 by omega] at this
          exact this
        have hwl1 : B0 ≤ w1.heap.size := Nat.le_trans hB0 hb01.size
        have hkl : k.length ≤ 256 := hw4.few
        have HC1 := Lib.hid (show ∀ (w' : World) (j : Nat) (hj : j < k.length) (lvj : Value) (ej : List (List UInt8 × VT)), Chg (fun q => q = Bl ∨ vblock lv = some q) w1 w' → (vblock lvj = vblock lv ∨ ∃ g, vblock lvj = some g ∧ w1.heap.size ≤ g) →
            w'.heap[Bl]? = some (.cells #[lvj] 84 (0, 0)) → SliceN w' B0 92 3 lvj ej.length (ej.flatMap entC) → ej = ents ++ fromL lst (pref pre2 (RT.itemsS (k.take j))) →
            ∃ g z, akv = some ⟨g, 0, none⟩ ∧ w'.cell? ⟨g, j, none⟩ = some (.pointer (some ⟨z, 0, none⟩)) ∧ w'.cell? ⟨Bw, 0, none⟩ = some (.func (.func 64) #[] #[.pointer (some ⟨Bs, 0, none⟩), .pointer (some ⟨Bl, 0, none⟩), .pointer (some ⟨Bw, 0, none⟩)]) ∧
              Calls Tryz.prog 64 #[.pointer (some ⟨z, 0, none⟩), .slice a2 n2 c2, .pointer (some ⟨Bs, 0, none⟩), .pointer (some ⟨Bl, 0, none⟩), .pointer (some ⟨Bw, 0, none⟩)] w' (Walked w' Bl B0 lvj ej (fromL lst (pref pre2 (RT.items k[j])))) from by
          intro w' j hj lvj ej hc hlv hlj hsj hej
          obtain ⟨g, z, oi, rfl, hz, hg, hnode, hoi, hgo⟩ := hkids j hj
          have hS : ∀ q, q < B0 → q ≠ Bl → ¬ (q = Bl ∨ vblock lv = some q) := fun q h1 h2 h3 => by
            rcases h3 with h3 | h3
            · exact h2 h3
            · have := hvb q h3; omega
          have hc0 : Chg (fun q => q = Bl ∨ vblock lv = some q) w w' := (Chg.of_below (fun q => q = Bl ∨ vblock lv = some q) hb01).trans hc fun _ h _ => h
          have cellk : ∀ q i, q < B0 → q ≠ Bl → w'.cell? ⟨q, i, none⟩ = w.cell? ⟨q, i, none⟩ := fun q i h1 h2 => World.cell?_of_block (w := w) (hc0.block q (by omega) (hS q h1 h2))
          refine ⟨g, z, rfl, (cellk g j (hdis g (.inl hgo)).1 (hdis g (.inl hgo)).2).trans hz, (cellk Bw 0 hBw hwl).trans cw, ?_⟩
          have hmem := hw4.mem k[j] (List.getElem_mem hj)
          have h1 := RT.nodes_get hj
          have h2 := RT.nodesS_succ hj
          have h3 := hnle (j + 1)
          have h4 := fromL_le lst pre2 (k.take j)
          refine radWalk hL hBs hBl hBw hsl hwl m (w := w') (ro := ro) (u := k[j]) (own := oi) (pre := pre2) (by omega) (hnode.chg hc0 (fun q hq => hS q (hdis q (.inr hq)).1 (hdis q (.inr hq)).2) fun q hq => hS q (hdis q (.inl (hoi q hq))).1 (hdis q (.inl (hoi q hq))).2)
            (by rw [hl2]; exact hmem.2) hl2 hn216 (.inr hmem.1) (fun q hq => hdis q (hq.imp (hoi q) id)) ?_ hz1 ?_ ((cellk Bs 0 hBs hsl).trans cs) ((cellk Bw 0 hBw hwl).trans cw) hlj hsj ?_ (Nat.le_trans hwl1 hc.size)
          · refine ⟨hbi1.1, hbi1.2.imp id ?_⟩
            rintro ⟨g2, o2, e, hc2⟩
            have hg2 := hfr1 g2 o2 e
            refine ⟨g2, o2, e, fun i hi => ?_⟩
            rw [World.cell?_of_block (w := w1) (a := ⟨g2, o2 + i, none⟩) (hc.block g2 (World.block_lt_of_cell? w1 _ (hc2 i hi)) (fun h3 => by
              have hg2' : w.heap.size ≤ g2 := hg2
              rcases h3 with h3 | h3
              · omega
              · have := hvb g2 h3; omega))]
            exact hc2 i hi
          · intro g2 o2 e
            have hg2 : w.heap.size ≤ g2 := hfr1 g2 o2 e
            refine ⟨by omega, fun hlvg => ?_⟩
            rcases hlv with h | ⟨g', h, h'⟩
            · rw [h] at hlvg; have := hvb g2 hlvg; omega
            · rw [h] at hlvg; cases hlvg
              rcases hbi1.2 with h0 | ⟨_, _, e', hc2⟩
              · have : pre2 = [] := List.eq_nil_of_length_eq_zero h0
                rw [hz1 this] at e; cases e
              · rw [e] at e'; cases e'
                by_cases hp0 : 0 < pre2.length
                · have := World.block_lt_of_cell? w1 _ (hc2 0 hp0)
                  simp only at this
                  omega
                · have : pre2 = [] := List.eq_nil_of_length_eq_zero (by omega)
                  rw [hz1 this] at e; cases e
          · rw [hej, List.length_append]; omega)
        have HFin := Lib.hid (show ∀ (w' : World) (lvj : Value) (ej : List (List UInt8 × VT)), Chg (fun q => q = Bl ∨ vblock lv = some q) w1 w' → (vblock lvj = vblock lv ∨ ∃ g, vblock lvj = some g ∧ w1.heap.size ≤ g) →
            w'.heap[Bl]? = some (.cells #[lvj] 84 (0, 0)) → SliceN w' B0 92 3 lvj ej.length (ej.flatMap entC) → ej = ents ++ fromL lst (pref pre2 (RT.itemsS (k.take k.length))) →
            Walked w Bl B0 lv ents (fromL lst (pref pre (RT.items (.mk b v k)))) (.returned (.tuple #[])) w' from by
          intro w' lvj ej hc hlv hlj hsj hej
          have e1 : RT.items (.mk b v k) = pref b (RT.itemsS k) := by
            rw [RT.items, if_neg (by simpa using hk)]; rfl
          rw [e1, pref_append, hpre2]
          rw [List.take_length] at hej
          rw [hej] at hsj
          exact ⟨rfl, lvj, hlj, hsj, (Chg.of_below (fun q => q = Bl ∨ vblock lv = some q) hb01).trans hc fun _ h _ => h, hlv.imp id fun ⟨g, h1, h2⟩ => ⟨g, h1, Nat.le_trans hb01.size h2⟩⟩)
        have hs1 := hs.below hb01
        have HS1 := Lib.hid (And.intro hl1 hs1)
        clear hnn hkids x1 hl1 hvb hnle hw4 hwl1 hs1 h hwf hdis cs cw hl hs hb1 hb01 hbi1 hfr1 hz1 hl2 hpre2 k1 k2 k3 k4 hbl hn hnlt hk hm hcnt
        go_wp2_with fail
        go_loopw [45] (fun i wr => ∃ j : Nat, j ≤ k.length ∧ i = .int .i64 j ∧ Hid (∃ lvj ej, Chg (fun q => q = Bl ∨ vblock lv = some q) w1 wr ∧ (vblock lvj = vblock lv ∨ ∃ g, vblock lvj = some g ∧ w1.heap.size ≤ g) ∧
          wr.heap[Bl]? = some (.cells #[lvj] 84 (0, 0)) ∧ SliceN wr B0 92 3 lvj ej.length (ej.flatMap entC) ∧ ej = ents ++ fromL lst (pref pre2 (RT.itemsS (k.take j))))) (fun i _ => k.length - (intOf i).toNat)
        case atStart => exact ⟨0, Nat.zero_le _, rfl, Lib.hid ⟨lv, ents, Chg.drewN (fun q => q = Bl ∨ vblock lv = some q) w1 _, .inl rfl, HS1.out.1, HS1.out.2, by simp [RT.itemsS, pref, fromL]⟩⟩
        case round =>
          obtain ⟨j, hj, rfl, hI⟩ := hrel
          obtain ⟨lvj, ej, i1, i2, i3, i4, i5⟩ := hI.out
          by_cases hlt : j < k.length
          · obtain ⟨g, z, rfl, hz, hw', hcall⟩ := HC1.out wr j hlt lvj ej i1 i2 i3 i4 i5
            have HCall := Lib.hid hcall
            have hce : ∀ (w : World) (args : Array Value), (callFunc 64 args).run Tryz.prog w = .ok (.enter 64 args) w := fun w args => rfl
            have HJ := Lib.hid (And.intro i1 (And.intro i2 i5))
            have HSuc := Lib.hid (itemsS_succ hlt)
            clear hcall i1 i2 i3 i4 i5 hI
            go_wp2_with fail
            refine HCall.out.mono ?_
            rintro e w2 ⟨rfl, lv2, q1, q2, q3, q4⟩
            have HN : Hid (∃ lvj ej, Chg (fun q => q = Bl ∨ vblock lv = some q) w1 w2 ∧ (vblock lvj = vblock lv ∨ ∃ g, vblock lvj = some g ∧ w1.heap.size ≤ g) ∧
                w2.heap[Bl]? = some (.cells #[lvj] 84 (0, 0)) ∧ SliceN w2 B0 92 3 lvj ej.length (ej.flatMap entC) ∧ ej = ents ++ fromL lst (pref pre2 (RT.itemsS (k.take (j + 1))))) := by
              refine Lib.hid ⟨lv2, _, HJ.out.1.trans q3 fun i hi hlt' => ?_, ?_, q1, q2, ?_⟩
              · rcases hi with hi | hi
                · exact .inl hi
                · rcases HJ.out.2.1 with h | ⟨g, h, h'⟩
                  · rw [h] at hi; exact .inr hi
                  · rw [h] at hi; cases hi; omega
              · rcases q4 with h | ⟨g, h, h'⟩
                · rw [h]; exact HJ.out.2.1
                · exact .inr ⟨g, h, Nat.le_trans HJ.out.1.size h'⟩
              · rw [HSuc.out, pref_apd, fromL_append, HJ.out.2.2, List.append_assoc]
            clear q1 q2 q3 q4 hz hw'
            go_wp2_with fail
            go_roundw
            case rel => exact ⟨j + 1, by omega, by go_num, HN⟩
            case measure => simp [intOf]; omega
          · have hjk : j = k.length := by omega
            subst hjk
            have HE := Lib.hid (HFin.out wr lvj ej i1 i2 i3 i4 i5)
            clear i1 i2 i3 i4 i5 hI
            go_wp2_with fail
            go_end0
            exact HE.out
end Go.Proofs.YtmaemgihhipllaaGreatDoor.Sad

/- radix: From's iterator. -/
namespace Go.Proofs.YtmaemgihhipllaaGreatDoor.Sad
open Go.Proofs.YtmaemgihhipllaaGreatDoor
set_option linter.unusedVariables false
set_option linter.unusedSimpArgs false
open Go.RowKit RT Go.Shelf
attribute [local go_sem] Oper.semAt_some
/-- What a thing is told as: its identifier's two numbers, the thing. -/
def itemOf (p : List UInt8 × VT) : Nat × Nat × VT := (valB (p.1.take 8), valB (p.1.drop 8), p.2)
def encs (x : Nat × Nat × VT) : Array Value := #[.agg #[.int .u64 x.1, .int .u64 x.2.1], vC x.2.2]
def itemsO : Option RT → List (List UInt8 × VT)
  | none => []
  | some t => RT.items t
def toldL (T : Option RT) (s : List UInt8) : List (Nat × Nat × VT) := (fromL s (itemsO T)).map itemOf
/-- What a round of a loop over From keeps: rows of entries. -/
def KeepE (W W' : World) : Prop := W.heap.size ≤ W'.heap.size ∧ ∀ (k : Nat) (cs : Array Value) (fz : Nat × Nat), W.heap[k]? = some (Obj.cells cs 92 fz) → W'.heap[k]? = some (Obj.cells cs 92 fz)
theorem KeepE.trans {A B C : World} (h : KeepE A B) (k : KeepE B C) : KeepE A C := ⟨Nat.le_trans h.1 k.1, fun i cs fz hi => k.2 i cs fz (h.2 i cs fz hi)⟩
theorem KeepE.putObj (W : World) (l : Nat) (o o' : Obj) (h : W.heap[l]? = some o) (ho : o.isCells = false) : KeepE W (W.putObj l o') := by
  refine ⟨by simp, fun k cs fz hk => ?_⟩
  by_cases e : k = l
  · subst e; rw [h] at hk; cases hk; cases ho
  · exact (World.putObj_heap_other e).trans hk
theorem KeepE.chg {S : Nat → Prop} {W W' : World} (h : Chg S W W') (hs : ∀ (k : Nat) (cs : Array Value) (fz : Nat × Nat), S k → W.heap[k]? ≠ some (Obj.cells cs 92 fz)) : KeepE W W' :=
  ⟨h.size, fun k cs fz hk => h.keep hk fun hS => hs k cs fz hS hk⟩
theorem radFrom (w : World) (p ms seq : Nat) : Calls Tryz.prog 19 #[.pointer (some ⟨p, 0, none⟩), .agg #[.int .u64 ms, .int .u64 seq]] w fun e w' => e = .returned (.func (.func 62) #[] #[.pointer (some ⟨w.heap.size, 0, none⟩), .pointer (some ⟨w.heap.size + 1, 0, none⟩)]) ∧
    w' = (w.alloc (.cells #[.pointer (some ⟨p, 0, none⟩)] 61)).alloc (.cells #[.int .u64 ms, .int .u64 seq] 41) := by
  go_enter Tryz.func19, Tryz.ntmps19
  go_wp2_with fail
  go_ret
  exact ⟨rfl, rfl⟩
theorem grown_of {W W' : World} (h : Below W.heap.size W W') : W.grownBy W' none := ⟨h.os, h.tape, h.output, h.size, fun k hk _ => h.block k hk⟩
theorem flat3 : ∀ (E : List (List UInt8 × VT)) (k : Nat) (h : k < E.length) (j : Nat), j < 3 → (E.flatMap entC).getD (k * 3 + j) undef = (entC E[k]).getD j undef
  | p :: E, 0, _, j, hj => by
    simp only [List.flatMap_cons, List.getD, Nat.zero_mul, Nat.zero_add, List.getElem_cons_zero]
    rw [List.getElem?_append_left (by simp [entC]; exact hj)]
  | p :: E, k + 1, h, j, hj => by
    have := flat3 E k (by simpa using h) j hj
    simp only [List.flatMap_cons, List.getD, List.getElem_cons_succ] at this ⊢
    rw [List.getElem?_append_right (by simp [entC]; omega), show (k + 1) * 3 + j - (entC p).length = k * 3 + j by simp [entC]; omega]
    exact this
theorem keep_slice {w w' : World} {B n : Nat} {v : Value} {xs : List Value} (hk : KeepE w w') (h : SliceN w B 92 3 v n xs) : SliceN w' B 92 3 v n xs := by
  refine ⟨h.1, h.2.imp id ?_⟩
  rintro ⟨g, cap, cur, rfl, h2, ⟨fz, h3, h4⟩, h5⟩
  exact ⟨g, cap, cur, rfl, h2, ⟨fz, h3, hk.2 _ _ _ h4⟩, h5⟩
set_option maxHeartbeats 6400000 in
set_option maxRecDepth 100000 in
theorem radIter1 {W : World} {p bt bi ms seq n l : Nat} {G : Nat → Prop} {T : Option RT} (h : TreeF W p G T n) (h1 : ms < 18446744073709551616) (h2 : seq < 18446744073709551616) (hbt : W.cell? ⟨bt, 0, none⟩ = some (.pointer (some ⟨p, 0, none⟩))) (hb0 : W.cell? ⟨bi, 0, none⟩ = some (.int .u64 ms)) (hb1 : W.cell? ⟨bi, 1, none⟩ = some (.int .u64 seq)) (hbi : W.heap[bi]? = some (.cells #[.int .u64 ms, .int .u64 seq] 41 (0, 0)))
    (hnodes : nodesO T ≤ 1000000) (J Jx : List (Nat × Nat × VT) → World → Prop) (hJ : AbidesFrom W.heap.size J) {m : Nat}
    (hY : ∀ pre x W1, J pre W1 → pre ++ [x] <+: toldL T (idBytes ms seq) → YieldAt Fence.wide m Tryz.prog l (encs x) W1 fun e W' => (e = .returned (.bool true) ∧ J (pre ++ [x]) W' ∧ KeepE W1 W') ∨ (e = .returned (.bool false) ∧ Jx (pre ++ [x]) W'))
    (h0 : J [] W) : Calls Tryz.prog 62 #[.func (.yield l) #[] #[], .pointer (some ⟨bt, 0, none⟩), .pointer (some ⟨bi, 0, none⟩)] W fun e W' => (∃ v, e = .returned v) ∧
      ((∃ xs, xs = toldL T (idBytes ms seq) ∧ J xs W') ∨ ∃ pre, pre <+: toldL T (idBytes ms seq) ∧ Jx pre W') := by
  have HBy := Lib.hid (fun w => bytes_any ms seq h1 h2 w)
  have HH := Lib.hid h
  have HJ := Lib.hid hJ
  have HY := Lib.hid hY
  have H0 := Lib.hid h0
  have HN := Lib.hid hnodes
  have hblt := World.block_lt_of_cell? W _ hbt
  obtain ⟨hv, hh, hTn, hTs, hGp⟩ := h.head
  have hplt := heap_lt hh
  have HT := Lib.hid (And.intro hh (And.intro hTn (And.intro hTs hGp)))
  clear h hJ hY h0 hnodes h1 h2 hh hTn hTs hGp
  go_enter Tryz.func62, Tryz.ntmps62
  go_wp2_with fail
  refine (HBy.out _).mono ?_
  rintro e w2 ⟨bv, rfl, hs, hb2⟩
  obtain ⟨a, ca, rfl, hbi2⟩ := slice_bytes hs
  have hcv := conv_any hbi2 (idBytes_length ms seq)
  obtain ⟨S1, hS1⟩ : ∃ S1, strOf (idBytes ms seq) = S1 := ⟨_, rfl⟩
  rw [hS1] at hcv
  have HS1 := Lib.hid hS1
  obtain ⟨w3, hw3⟩ : ∃ w3, w3 = ((w2.alloc (.cells #[.string S1] 9)).alloc (.cells #[.slice none 0 0] 84)).alloc (.cells #[.func (.func 64) #[] #[.pointer (some ⟨w2.heap.size, 0, none⟩), .pointer (some ⟨w2.heap.size + 1, 0, none⟩), .pointer (some ⟨w2.heap.size + 2, 0, none⟩)]] 85) := ⟨_, rfl⟩
  clear hS1
  go_upto_region 5 with (fail)
  rw [← hw3]
  have hsz3 : w3.heap.size = w2.heap.size + 3 := by rw [hw3]; simp
  have hb3 : Below W.heap.size W w3 := by rw [hw3]; exact ((hb2.alloc hb2.size _).alloc (by simp; have := hb2.size; omega) _).alloc (by simp; have := hb2.size; omega) _
  have ls : w3.cell? ⟨w2.heap.size, 0, none⟩ = some (.string S1) := by
    rw [hw3]
    exact cell_in (heap_old (heap_old (heap_new _ _) _) _) rfl
  have ll : w3.heap[w2.heap.size + 1]? = some (.cells #[.slice none 0 0] 84 (0, 0)) := by
    rw [hw3]
    have := heap_new (w2.alloc (.cells #[.string S1] 9)) (.cells #[.slice none 0 0] 84)
    rw [World.size_alloc] at this
    exact heap_old this _
  have lw : w3.cell? ⟨w2.heap.size + 2, 0, none⟩ = some (.func (.func 64) #[] #[.pointer (some ⟨w2.heap.size, 0, none⟩), .pointer (some ⟨w2.heap.size + 1, 0, none⟩), .pointer (some ⟨w2.heap.size + 2, 0, none⟩)]) := by
    rw [hw3]
    have := heap_new ((w2.alloc (.cells #[.string S1] 9)).alloc (.cells #[.slice none 0 0] 84)) (.cells #[.func (.func 64) #[] #[.pointer (some ⟨w2.heap.size, 0, none⟩), .pointer (some ⟨w2.heap.size + 1, 0, none⟩), .pointer (some ⟨w2.heap.size + 2, 0, none⟩)]] 85)
    simp only [World.size_alloc] at this
    exact cell_in this rfl
  have bt3 : w3.cell? ⟨bt, 0, none⟩ = some (.pointer (some ⟨p, 0, none⟩)) := (hb3.cell (p := ⟨bt, 0, none⟩) hblt).trans hbt
  have hsz2 : W.heap.size ≤ w2.heap.size := hb2.size
  have HW3 := Lib.hid (And.intro hb3 ll)
  have hp3 : w3.cell? ⟨p, 1, none⟩ = some hv := (hb3.cell (p := ⟨p, 1, none⟩) hplt).trans (cell_in HT.out.1 rfl)
  clear hw3 hb2 hs hbi2 hcv hb3 hbt hb0 hb1 hbi
  cases T with
  | none =>
    have : hv = .pointer none := HT.out.2.1 rfl
    subst this
    have l0 := cell_in ll (i := 0) rfl
    go_wp2_with fail
    go_loopw [28] (fun i wr => i = .int .i64 0 ∧ ∃ d, wr = w3.drewN d) (fun _ _ => 0)
    case atStart => exact ⟨rfl, 0, rfl⟩
    case round =>
      obtain ⟨rfl, d, rfl⟩ := hrel
      go_wp2_with fail
      go_end0
      refine ⟨⟨_, rfl⟩, .inl ⟨[], rfl, ?_⟩⟩
      exact HJ.out [] W _ none H0.out (grown_of (belowN HW3.out.1 _)) (fun r e => by cases e)
  | some t =>
    obtain ⟨hGl, hwf, ro, x, own, hroot, hG⟩ := HH.out
    have hvx : hv = .pointer (some ⟨x, 0, none⟩) := by
      have e := HT.out.1.symm.trans hroot.1
      simp only [Option.some.injEq, Obj.cells.injEq, Array.mk.injEq, List.cons.injEq] at e
      exact e.1.2.1
    subst hvx
    have hn0 : RT.nodes t ≤ 1000000 := HN.out
    have hin : ∀ q, q ∈ own ∨ ro q → q < W.heap.size := fun q hq => hGl q (hG q (.inr hq))
    have hcc := Chg.of_below (fun _ => False) HW3.out.1
    have HWk := Lib.hid (radWalk (lst := idBytes ms seq) (idBytes_length ms seq) (Bs := w2.heap.size) (Bl := w2.heap.size + 1) (Bw := w2.heap.size + 2) (B0 := w2.heap.size + 3) (by omega) (by omega) (by omega) (by omega) (by omega) (RT.nodes t) (w := w3.drewN 1) (ro := ro) (u := t) (x := x) (own := own) (pre := []) (a := none) (n := 0) (ca := 0) (lv := .slice none 0 0) (ents := [])
      (Nat.le_refl _) ((hroot.2.1.chg hcc (fun _ _ => id) fun _ _ => id).chg (Chg.drewN (fun _ => False) w3 1) (fun _ _ => id) fun _ _ => id) hwf rfl (by omega) (.inl rfl) (fun q hq => by have := hin q hq; omega) ⟨by simp, .inl rfl⟩ (fun _ => rfl) (fun g o e => by cases e) (by rw [HS1.out]; exact ls) lw HW3.out.2 (SliceN.nil _ _ _ _) (by simp; omega) (by show _ ≤ w3.heap.size; omega))
    have hce : ∀ (w : World) (args : Array Value), (callFunc 64 args).run Tryz.prog w = .ok (.enter 64 args) w := fun w args => rfl
    obtain ⟨X1, f, hX1, hf, hF⟩ := classOf (fun w' => w'.cell? ⟨w2.heap.size + 2, 0, none⟩ = some (.func (.func 64) #[] #[.pointer (some ⟨w2.heap.size, 0, none⟩), .pointer (some ⟨w2.heap.size + 1, 0, none⟩), .pointer (some ⟨w2.heap.size + 2, 0, none⟩)]) ∧ w'.cell? ⟨bt, 0, none⟩ = some (.pointer (some ⟨p, 0, none⟩)) ∧ w'.cell? ⟨p, 1, none⟩ = some (.pointer (some ⟨x, 0, none⟩))) (w := w3) ⟨lw, bt3, hp3⟩
    have f1 := fun x => (hf x).1
    have f2 := fun x => (hf x).2.1
    have f3 := fun x => (hf x).2.2
    have HF := Lib.hid (hF w3.drew ⟨lw, bt3, hp3⟩)
    clear hF hf hcc hin hn0 hG hroot hwf hGl ll
    go_upto_region 6 with (fail)
    refine wp_region_text ⟨[5], [], 5⟩ (fun w' => ∃ x : X1, w' = f x) (by kernel_rfl) (by kernel_rfl) HF.out ?_
    refine wpC_seg false (HF.out) 5 0 _ _ (by rfl) (by rfl) ?_
    simp only [List.take_succ_cons, List.take_zero, List.drop_succ_cons, List.drop_zero, Bool.false_eq_true, if_false, Nat.zero_add, Nat.reduceAdd]
    repeat (go_big_quiet_step (fail))
    refine wpQuiet_nil ?_
    refine wpC_loud (by rfl) (by rfl) fun K hK => ?_
    go_wp2_with fail
    refine HWk.out.mono ?_
    rintro e w4 ⟨rfl, lv, q1, q2, q3, q4⟩
    refine hK _ _ (fun h => absurd h (by decide)) ?_
    clear hK
    refine wpC_nil ?_
    clear f1 f2 f3 hX1 HF f
    obtain ⟨al, cl, rfl, hle, hcm⟩ := q2.form
    obtain ⟨E, hE⟩ : ∃ E, fromL (idBytes ms seq) (RT.items t) = E := ⟨_, rfl⟩
    have hpn : pref [] (RT.items t) = RT.items t := by simp [pref]
    rw [hpn, hE, List.nil_append] at q2 hle
    rw [hpn, hE, List.nil_append] at q1
    obtain ⟨nl, hnl⟩ : ∃ nl, E.length = nl := ⟨_, rfl⟩
    have hnlb : nl ≤ 1000000 := by
      have h1 := @items_le t
      have h2 := List.length_filter_le (fun p : List UInt8 × VT => !decide (p.1 < idBytes ms seq)) (RT.items t)
      rw [← hnl, ← hE]
      unfold fromL
      have h3 : RT.nodes t ≤ 1000000 := HN.out
      omega
    rw [hnl] at q1 q2 hle
    have hb4 : Below W.heap.size W w4 := belowChg (belowN HW3.out.1 1) q3 (by show _ ≤ w3.heap.size; omega) fun k hk _ => by
      rcases hk with rfl | hk
      · omega
      · cases hk
    have hJ4 : J [] w4 := HJ.out [] W _ none H0.out (grown_of hb4) (fun r e => by cases e)
    have hL : toldL (some t) (idBytes ms seq) = E.map itemOf := by show (fromL _ (RT.items t)).map itemOf = _; rw [hE]
    have HL := Lib.hid hL
    have HYE := Lib.hid (show ∀ pre x W1, J pre W1 → pre ++ [x] <+: E.map itemOf → YieldAt Fence.wide m Tryz.prog l (encs x) W1 fun e W' => (e = .returned (.bool true) ∧ J (pre ++ [x]) W' ∧ KeepE W1 W') ∨ (e = .returned (.bool false) ∧ Jx (pre ++ [x]) W') from fun pre x W1 hj hp => HY.out pre x W1 hj (by rw [hL]; exact hp))
    have l4 := cell_in q1 (i := 0) rfl
    have HQ := Lib.hid (And.intro q2 (And.intro hJ4 hb4))
    clear q1 q2 q3 q4 hb4 hJ4 hL HWk hp3 bt3 lw ls hpn
    go_wp2_with fail
    go_loopw [28] (fun i wr => ∃ k : Nat, k ≤ nl ∧ i = .int .i64 k ∧ Hid (J ((E.take k).map itemOf) wr ∧ SliceN wr (w2.heap.size + 3) 92 3 (.slice al nl cl) nl (E.flatMap entC) ∧ W.heap.size ≤ wr.heap.size)) (fun i _ => nl - (intOf i).toNat)
    case atStart =>
      refine ⟨0, Nat.zero_le _, rfl, Lib.hid ⟨?_, ?_, ?_⟩⟩
      · exact HQ.out.2.1
      · exact HQ.out.1
      · exact HQ.out.2.2.size
    case round =>
      obtain ⟨k, hk, rfl, hI⟩ := hrel
      by_cases hlt : k < nl
      · obtain ⟨g, cap, cur, he, hg, hrow, hcs, hnc, hcm2, htk⟩ := hI.out.2.1.2.resolve_left (by simp; omega)
        cases he
        have hEk : k < E.length := by omega
        have hcell : ∀ j, j < 3 → wr.cell? ⟨g, k * 3 + j, none⟩ = some ((entC E[k]).getD j undef) := fun j hj => by
          rw [hI.out.2.1.cell rfl (i := k * 3 + j) (by omega)]
          congr 1
          exact flat3 E k hEk j hj
        have c0 := hcell 0 (by omega)
        have c1 := hcell 1 (by omega)
        have c2 := hcell 2 (by omega)
        simp only [entC, List.getD_cons_zero, List.getD_cons_succ, Nat.add_zero] at c0 c1 c2
        obtain ⟨x0, hx0⟩ : ∃ x0 : Nat, valB (E[k].1.take 8) = x0 := ⟨_, rfl⟩
        obtain ⟨x1, hx1⟩ : ∃ x1 : Nat, valB (E[k].1.drop 8) = x1 := ⟨_, rfl⟩
        obtain ⟨x2, hx2⟩ : ∃ x2 : VT, E[k].2 = x2 := ⟨_, rfl⟩
        rw [hx0] at c0
        rw [hx1] at c1
        rw [hx2] at c2
        have hgr := hrow.lt
        have c2' : wr.cell? ⟨g, k * 3 + 1 + 1, none⟩ = some (vC x2) := c2
        obtain ⟨w5, hw5⟩ : ∃ w5, w5 = wr.alloc (.cells #[.int .u64 x0, .int .u64 x1, vC x2] 92) := ⟨_, rfl⟩
        have hb5 : Below wr.heap.size wr w5 := by rw [hw5]; exact (Below.refl _ _).alloc (Nat.le_refl _) _
        have hJ5 : J ((E.take k).map itemOf) w5 := HJ.out _ wr _ none hI.out.1 (grown_of hb5) (fun r e => by cases e)
        have hs5 := hI.out.2.1.below hb5
        have hx5 : w5.heap[wr.heap.size]? = some (.cells #[.int .u64 x0, .int .u64 x1, vC x2] 92 (0, 0)) := by rw [hw5]; exact heap_new _ _
        have y0 := cell_in hx5 (i := 0) rfl
        have y1 := cell_in hx5 (i := 1) rfl
        have y2 := cell_in hx5 (i := 2) rfl
        have hsucc : (E.take k).map itemOf ++ [(x0, x1, x2)] = (E.take (k + 1)).map itemOf := by
          rw [List.take_succ_eq_append_getElem hEk, List.map_append]
          simp [itemOf, hx0, hx1, hx2]
        obtain ⟨fn, tmps, assign, body, hy, hR⟩ := HYE.out ((E.take k).map itemOf) (x0, x1, x2) w5 hJ5 (by rw [hsucc]; exact List.IsPrefix.map _ (List.take_prefix _ _))
        rw [hsucc] at hR
        have HR := Lib.hid hR
        have HS5 := Lib.hid (And.intro hs5 (And.intro hb5.size (And.intro (heap_lt hx5) hI.out.2.2)))
        have HW5 := Lib.hid hw5
        have HLt := Lib.hid hlt
        dsimp only [encs] at hy
        clear hw5 hb5 hJ5 hs5 hx5 hR hsucc hcell hrow htk hx0 hx1 hx2 hI
        go_upto_region 10 with (fail)
        rw [← HW5.out]
        clear c0 c1 c2 c2'
        refine (wpIn_wide (n := m + 1)).1 ?_
        gi_wp2
        refine HR.out.mono ?_
        rintro e w6 (⟨rfl, hJ6, hk6⟩ | ⟨rfl, hx6⟩)
        · have HJ6 := Lib.hid (And.intro hJ6 hk6)
          clear hJ6 hk6 HR hy
          gi_wp2
          go_wp2_with fail
          go_roundw
          case rel =>
            have hlt := HLt.out
            refine ⟨k + 1, by omega, by go_num, Lib.hid ⟨HJ6.out.1, ?_, ?_⟩⟩
            · exact keep_slice HJ6.out.2 HS5.out.1
            · exact Nat.le_trans HS5.out.2.2.2 (Nat.le_trans HS5.out.2.1 HJ6.out.2.1)
          case measure =>
            have hlt := HLt.out
            simp [intOf]
            omega
        · have HJ6 := Lib.hid hx6
          clear hx6 HR hy
          gi_wp2
          go_wp2_with fail
          refine bodyPost_ret (results_none rfl _ _ _) rfl ?_
          rw [HL.out]
          exact ⟨⟨_, rfl⟩, .inr ⟨_, List.IsPrefix.map _ (List.take_prefix _ _), HJ6.out⟩⟩
      · have hkn : k = nl := by omega
        subst hkn
        have HJ6 := Lib.hid hI.out.1
        have HEl := Lib.hid (show E.take k = E from List.take_of_length_le (by omega))
        clear hI
        go_wp2_with fail
        go_end0
        rw [HL.out]
        exact ⟨⟨_, rfl⟩, .inl ⟨_, rfl, by have := HJ6.out; rw [HEl.out] at this; exact this⟩⟩
end Go.Proofs.YtmaemgihhipllaaGreatDoor.Sad

/- radix: whole trees in plain Lean. -/
namespace Go.Proofs.YtmaemgihhipllaaGreatDoor.Sad
open Go.Proofs.YtmaemgihhipllaaGreatDoor
set_option linter.unusedVariables false
set_option linter.unusedSimpArgs false
open Go.RowKit RT
def WFO (T : Option RT) : Prop := ∀ t, T = some t → WF 16 t
theorem TreeF.wf {w : World} {p : Nat} {G : Nat → Prop} {T : Option RT} {n : Nat} (h : TreeF w p G T n) : WFO T := fun t e => by subst e; exact h.2.1
theorem WFO.putO {T : Option RT} (h : WFO T) {s : List UInt8} (hs : s.length = 16) (v : VT) : WFO (putO T s v) := fun t e => by
  cases T with
  | none => cases e; rw [WF]; exact ⟨by omega, .inl ⟨rfl, hs⟩⟩
  | some t0 => cases e; exact WF_put v (h t0 rfl) hs
theorem look_putO {T : Option RT} (h : WFO T) {s s' : List UInt8} (hs : s.length = 16) (hs' : s'.length = 16) (v : VT) : lookO (putO T s v) s' = if s' = s then some v else lookO T s' := by
  cases T with
  | none =>
    show RT.look (.mk s v []) s' = _
    rw [look_leaf s s' v (by omega)]
    rfl
  | some t => exact look_put v (h t rfl) hs hs'
theorem WFO.delO {T : Option RT} (h : WFO T) {s : List UInt8} (hs : s.length = 16) (hl : lookO T s ≠ none) : WFO (delO T s) := fun t e => by
  cases T with
  | none => exact absurd rfl hl
  | some t0 =>
    have e : (if t0.kids.isEmpty then none else some (RT.del t0 s)) = some t := e
    split at e
    · cases e
    · next hk =>
      cases e
      refine WF_del (h t0 rfl) (fun e => hk (by rw [e]; rfl)) hs ?_
      cases hh : RT.look t0 s with
      | none => exact absurd hh hl
      | some _ => rfl
theorem leaf_key {t : RT} (h : WF 16 t) (hk : t.kids.isEmpty = true) {s : List UInt8} (hs : s.length = 16) {v : VT} (hl : RT.look t s = some v) : t = .mk s v [] := by
  obtain ⟨b, w, k⟩ := t
  obtain rfl : k = [] := by simpa [RT.kids] using hk
  have hb : b.length = 16 := by
    rw [WF] at h
    rcases h.2 with h | h
    · exact h.2
    · have := h.1; simp at this
  rw [look_leaf b s w (by omega)] at hl
  split at hl
  · next e => cases hl; rw [e]
  · cases hl
theorem look_delO {T : Option RT} (h : WFO T) {s s' : List UInt8} (hs : s.length = 16) (hs' : s'.length = 16) (hl : lookO T s ≠ none) : lookO (delO T s) s' = if s' = s then none else lookO T s' := by
  cases T with
  | none => exact absurd rfl hl
  | some t =>
    cases hh : RT.look t s with
    | none => exact absurd hh hl
    | some v =>
      show ((if t.kids.isEmpty then none else some (RT.del t s)).bind fun t => RT.look t s') = if s' = s then none else RT.look t s'
      split
      · next hk =>
        have := leaf_key (h t rfl) hk hs hh
        rw [this, look_leaf s s' v (by omega)]
        split <;> rfl
      · next hk =>
        exact look_del (h t rfl) (fun e => hk (by rw [e]; rfl)) hs hs' (by rw [hh]; rfl)
theorem canonO {T1 T2 : Option RT} (h1 : WFO T1) (h2 : WFO T2) (h : ∀ s, s.length = 16 → lookO T1 s = lookO T2 s) : T1 = T2 := by
  have key : ∀ (t : RT), WF 16 t → ∃ s, s.length = 16 ∧ RT.look t s ≠ none := fun t ht => by
    obtain ⟨s, e1, e2, _⟩ := some_key ht
    exact ⟨s, e1, fun e => by rw [e] at e2; cases e2⟩
  cases T1 with
  | none =>
    cases T2 with
    | none => rfl
    | some t =>
      obtain ⟨s, e1, e2⟩ := key t (h2 t rfl)
      exact absurd (h s e1).symm e2
  | some t1 =>
    cases T2 with
    | none =>
      obtain ⟨s, e1, e2⟩ := key t1 (h1 t1 rfl)
      exact absurd (h s e1) e2
    | some t2 => rw [canon (h1 t1 rfl) (h2 t2 rfl) h]
theorem mem_itemsO {T : Option RT} (h : WFO T) (s : List UInt8) (x : VT) : (s, x) ∈ itemsO T ↔ s.length = 16 ∧ lookO T s = some x := by
  cases T with
  | none => simp [itemsO, lookO]
  | some t => exact mem_items s x (h t rfl)
theorem itemsO_rise {T : Option RT} (h : WFO T) : (itemsO T).Pairwise fun p q => p.1 < q.1 := by
  cases T with
  | none => exact List.Pairwise.nil
  | some t => exact items_rise (h t rfl)
theorem itemsO_nodup {T : Option RT} (h : WFO T) : ((itemsO T).map Prod.fst).Nodup := by
  rw [List.nodup_iff_pairwise_ne, List.pairwise_map]
  refine (itemsO_rise h).imp fun {p q} hpq e => ?_
  rw [e] at hpq
  exact List.lt_irrefl _ hpq
theorem sub_len {α : Type} [DecidableEq α] : ∀ {l m : List α}, l.Nodup → (∀ x ∈ l, x ∈ m) → l.length ≤ m.length
  | [], m, _, _ => by simp
  | a :: l, m, hd, hs => by
    rw [List.nodup_cons] at hd
    have ha := hs a (by simp)
    have := sub_len (m := m.erase a) hd.2 fun x hx => by
      have hne : x ≠ a := fun e => hd.1 (e ▸ hx)
      exact (List.mem_erase_of_ne hne).2 (hs x (by simp [hx]))
    rw [List.length_erase_of_mem ha] at this
    have h0 : 0 < m.length := List.length_pos_of_mem ha
    simp only [List.length_cons]; omega
theorem mem_keys {T : Option RT} (h : WFO T) (s : List UInt8) : s ∈ (itemsO T).map Prod.fst ↔ s.length = 16 ∧ lookO T s ≠ none := by
  constructor
  · intro hm
    obtain ⟨⟨s', x⟩, hp, rfl⟩ := List.mem_map.1 hm
    have := (mem_itemsO h s' x).1 hp
    exact ⟨this.1, by rw [this.2]; simp⟩
  · rintro ⟨h1, h2⟩
    cases hl : lookO T s with
    | none => exact absurd hl h2
    | some x => exact List.mem_map.2 ⟨(s, x), (mem_itemsO h s x).2 ⟨h1, hl⟩, rfl⟩
theorem len_putO {T : Option RT} (h : WFO T) {s : List UInt8} (hs : s.length = 16) (v : VT) : (itemsO (putO T s v)).length = if (lookO T s).isNone then (itemsO T).length + 1 else (itemsO T).length := by
  have h' := h.putO hs v
  have e1 : (itemsO (putO T s v)).length = ((itemsO (putO T s v)).map Prod.fst).length := by simp
  have e2 : (itemsO T).length = ((itemsO T).map Prod.fst).length := by simp
  have hm : ∀ x, x ∈ (itemsO (putO T s v)).map Prod.fst ↔ x = s ∨ x ∈ (itemsO T).map Prod.fst := fun x => by
    rw [mem_keys h', mem_keys h]
    constructor
    · rintro ⟨h1, h2⟩
      rw [look_putO h hs h1] at h2
      by_cases e : x = s
      · exact .inl e
      · rw [if_neg e] at h2; exact .inr ⟨h1, h2⟩
    · rintro (rfl | ⟨h1, h2⟩)
      · exact ⟨hs, by rw [look_putO h hs hs, if_pos rfl]; simp⟩
      · refine ⟨h1, ?_⟩
        rw [look_putO h hs h1]
        split
        · simp
        · exact h2
  rw [e1, e2]
  cases hl : lookO T s with
  | none =>
    have hno : s ∉ (itemsO T).map Prod.fst := fun hh => ((mem_keys h s).1 hh).2 hl
    have hd : (s :: (itemsO T).map Prod.fst).Nodup := List.nodup_cons.2 ⟨hno, itemsO_nodup h⟩
    have a1 := sub_len (itemsO_nodup h') (m := s :: (itemsO T).map Prod.fst) fun x hx => List.mem_cons.2 ((hm x).1 hx)
    have a2 := sub_len hd (m := (itemsO (putO T s v)).map Prod.fst) fun x hx => (hm x).2 (List.mem_cons.1 hx)
    simp only [List.length_cons] at a1 a2
    simp only [Option.isNone_none, if_true]
    omega
  | some y =>
    have hin : s ∈ (itemsO T).map Prod.fst := (mem_keys h s).2 ⟨hs, by rw [hl]; simp⟩
    have a1 := sub_len (itemsO_nodup h') (m := (itemsO T).map Prod.fst) fun x hx => ((hm x).1 hx).elim (fun e => e ▸ hin) id
    have a2 := sub_len (itemsO_nodup h) (m := (itemsO (putO T s v)).map Prod.fst) fun x hx => (hm x).2 (.inr hx)
    simp only [Option.isNone_some, Bool.false_eq_true, if_false]
    omega
theorem len_delO {T : Option RT} (h : WFO T) {s : List UInt8} (hs : s.length = 16) (hl : lookO T s ≠ none) : (itemsO (delO T s)).length + 1 = (itemsO T).length := by
  have h' := h.delO hs hl
  have e1 : (itemsO (delO T s)).length = ((itemsO (delO T s)).map Prod.fst).length := by simp
  have e2 : (itemsO T).length = ((itemsO T).map Prod.fst).length := by simp
  have hm : ∀ x, x ∈ (itemsO (delO T s)).map Prod.fst ↔ x ≠ s ∧ x ∈ (itemsO T).map Prod.fst := fun x => by
    rw [mem_keys h', mem_keys h]
    constructor
    · rintro ⟨h1, h2⟩
      rw [look_delO h hs h1 hl] at h2
      by_cases e : x = s
      · rw [if_pos e] at h2; exact absurd rfl h2
      · rw [if_neg e] at h2; exact ⟨e, h1, h2⟩
    · rintro ⟨h0, h1, h2⟩
      exact ⟨h1, by rw [look_delO h hs h1 hl, if_neg h0]; exact h2⟩
  rw [e1, e2]
  have hno : s ∉ (itemsO (delO T s)).map Prod.fst := fun hh => ((hm s).1 hh).1 rfl
  have hin : s ∈ (itemsO T).map Prod.fst := (mem_keys h s).2 ⟨hs, hl⟩
  have hd : (s :: (itemsO (delO T s)).map Prod.fst).Nodup := List.nodup_cons.2 ⟨hno, itemsO_nodup h'⟩
  have a1 := sub_len hd (m := (itemsO T).map Prod.fst) fun x hx => (List.mem_cons.1 hx).elim (fun e => e ▸ hin) fun hx => ((hm x).1 hx).2
  have a2 := sub_len (itemsO_nodup h) (m := s :: (itemsO (delO T s)).map Prod.fst) fun x hx => by
    by_cases e : x = s
    · rw [e]; simp
    · exact List.mem_cons.2 (.inr ((hm x).2 ⟨e, hx⟩))
  simp only [List.length_cons] at a1 a2
  omega
theorem nodesO_le {T : Option RT} (h : WFO T) : nodesO T ≤ 2 * (itemsO T).length ∧ (itemsO T).length ≤ nodesO T ∧ (T ≠ none → nodesO T + 1 ≤ 2 * (itemsO T).length) := by
  cases T with
  | none => exact ⟨by simp [nodesO], by simp [itemsO], fun h => absurd rfl h⟩
  | some t =>
    have := nodes_items (h t rfl)
    exact ⟨by show RT.nodes t ≤ 2 * (RT.items t).length; omega, this.2, fun _ => this.1⟩
end Go.Proofs.YtmaemgihhipllaaGreatDoor.Sad

/- numbers as texts, at a seat whose rows lay the library's variables: what a world must hold for it (Laid), and strconv.FormatUint at base 10. -/
namespace Go.Proofs.YtmaemgihhipllaaGreatDoor
set_option linter.unusedVariables false
set_option linter.unusedSimpArgs false
open Go.RowKit Go.Sort Go.Lib
def decS (u : Nat) : ByteArray := ⟨(Lib.decDigits u).toArray⟩
set_option maxHeartbeats 6400000 in
set_option maxRecDepth 100000 in
theorem fmtU_inner (u : Nat) (hu : u < 18446744073709551616) {w : World} (hl : Laid w) :
    Calls Tryz.prog 96 #[.int .u64 u, .int .i64 10] w fun e w' => e = .returned (.string (decS u)) ∧ Below w.heap.size w w' := by
  rcases Nat.lt_or_ge u 100 with hs | hs
  · have hd : (u : Int) < 100 := by omega
    have HS := Lib.hid (fun w => Tryz.internal_strconv_small u hs w)
    clear hs hl
    go_enter Tryz.func96, Tryz.ntmps96
    go_wp2_with fail
    refine (HS.out _).mono ?_
    rintro e w' ⟨rfl, rfl⟩
    go_wp2_with fail
    go_ret
    exact ⟨rfl, Below.refl _ _⟩
  · have hu1 : 1 ≤ u := by omega
    have hnd20 : Lib.nDigits u ≤ 20 := by have := Lib.numDigits_eq u hu1 hu; split at this <;> omega
    have hal : Tryz.prog.arrayLen 169 = 24 := by kernel_rfl
    have hsl : ∀ W, (Instr.sliceAt 169 (.pointer (some ⟨w.heap.size, 0, none⟩)) none (some (.int .i64 (Lib.nDigits u : Int))) none).run Tryz.prog W = .ok (.slice (some ⟨w.heap.size, 0, none⟩) (Lib.nDigits u) 24) W := fun W => by
      rw [run_sliceAt_array_h W 169 ⟨w.heap.size, 0, none⟩ (by kernel_rfl) .i64 (Lib.nDigits u : Int) (by omega) (by rw [hal]; omega)]
      go_simp
    have hH0 := Lib.holds_zero0 w 169 (Lib.nDigits u) (by omega)
    have hfmt := Tryz.internal_strconv_formatBase10 w.heap.size 0 24 u (Array.replicate (Lib.nDigits u) 0) (w.alloc (.cells Lib.zeros24 169)) hH0 (by rw [Array.size_replicate]; exact Lib.lt_pow_nDigits u) hu (by rw [Array.size_replicate]; omega)
    rw [Array.size_replicate] at hfmt
    have HH0 := Lib.hid hH0
    have HN := Lib.hid (Tryz.internal_strconv_numDigits u hu1 hu _ (Lib.tabIs_alloc hl.tab (.cells Lib.zeros24 169)))
    have HF := Lib.hid hfmt
    have hd : (100 : Int) ≤ (u : Int) := by omega
    clear hH0 hal hfmt hu1 hs hl
    go_enter Tryz.func96, Tryz.ntmps96
    go_wp2_with fail
    refine HN.out.mono ?_
    rintro e w' ⟨rfl, rfl⟩
    go_wp2_with fail
    refine HF.out.mono ?_
    rintro e w' ⟨rfl, k, v', dk, rfl, hF⟩
    have hcv : (convert 82 9 (.slice (some ⟨w.heap.size, 0, none⟩) (Lib.nDigits u) 24)).run Tryz.prog ((putRow (fun (b : UInt8) => Value.int .u8 (b.toNat : Int)) (w.alloc (.cells Lib.zeros24 169)) w.heap.size 0 dk).drewN k) = .ok (.string (decS u)) ((putRow (fun (b : UInt8) => Value.int .u8 (b.toNat : Int)) (w.alloc (.cells Lib.zeros24 169)) w.heap.size 0 dk).drewN k) := by
      have h := run_convert_bytes_back (P := Tryz.prog) ((putRow (fun (b : UInt8) => Value.int .u8 (b.toNat : Int)) (w.alloc (.cells Lib.zeros24 169)) w.heap.size 0 dk).drewN k) 82 9 5 ⟨w.heap.size, 0, none⟩ 24 (Lib.decDigits u) Tryz.underlying82 Tryz.underlying5 Tryz.underlying9 (fun j hj => by
        rw [Lib.row_is_numeral hF j hj, Lib.add_plain, World.cell?_drewN]
        exact cell?_putRow (fun (b : UInt8) => Value.int .u8 (b.toNat : Int)) _ w.heap.size 0 _ dk HH0.out (by rw [hF.size, Array.size_replicate]) j (by rw [hF.size]; rw [Lib.decDigits_length] at hj; exact hj))
      rw [Lib.decDigits_length] at h
      exact h
    have HE := Lib.hid (show Below w.heap.size w ((putRow (fun (b : UInt8) => Value.int .u8 (b.toNat : Int)) (w.alloc (.cells Lib.zeros24 169)) w.heap.size 0 dk).drewN k) by
      obtain ⟨os, e⟩ := Lib.fin_at w (.cells Lib.zeros24 169) dk k 0
      rw [e]
      exact Lib.below_grow _ w (Nat.le_refl _) k os)
    go_wp2_with fail
    go_ret
    exact ⟨rfl, HE.out⟩
end Go.Proofs.YtmaemgihhipllaaGreatDoor

/- stream's numbers and identifiers as texts, and back. -/
namespace Go.Proofs.YtmaemgihhipllaaGreatDoor
set_option linter.unusedVariables false
set_option linter.unusedSimpArgs false
open Go.RowKit
set_option maxHeartbeats 800000 in
set_option maxRecDepth 100000 in
theorem fmtU (u : Nat) (hu : u < 18446744073709551616) {w : World} (hl : Laid w) :
    Calls Tryz.prog 87 #[.int .u64 u, .int .i64 10] w fun e w' => e = .returned (.string (decS u)) ∧ Below w.heap.size w w' := by
  have H := Lib.hid (fmtU_inner u hu hl)
  clear hl
  go_enter Tryz.func87, Tryz.ntmps87
  go_wp2_with fail
  refine H.out.mono ?_
  rintro e w' ⟨rfl, hb⟩
  have HB := Lib.hid hb
  clear hb
  go_wp2_with fail
  go_ret
  exact ⟨rfl, HB.out⟩
/-- What 'number' says of a text. -/
def numS (s : ByteArray) : Nat × Bool :=
  match Lib.parseUintB 64 s.data.toList with
  | .ok u => (u, (decS u).toList == s.toList)
  | .range => (18446744073709551615, false)
  | _ => (0, false)
theorem parseUintM_lt : ∀ (l : List UInt8) (acc u : Nat), acc < 18446744073709551616 → Lib.parseUintM 18446744073709551615 acc l = .ok u → u < 18446744073709551616
  | [], acc, u, h, e => by simp only [Lib.parseUintM] at e; cases e; exact h
  | c :: r, acc, u, h, e => by
    simp only [Lib.parseUintM] at e
    split at e
    · split at e
      · cases e
      · split at e
        · cases e
        · exact parseUintM_lt r _ u (by omega) e
    · cases e
theorem parseU_lt {l : List UInt8} {u : Nat} (h : Lib.parseUintB 64 l = .ok u) : u < 18446744073709551616 := by
  unfold Lib.parseUintB at h
  split at h
  · cases h
  · exact parseUintM_lt l 0 u (by omega) h
theorem numS_lt (s : ByteArray) : (numS s).1 < 18446744073709551616 := by
  unfold numS
  split
  · next u h => exact parseU_lt h
  · decide
  · decide
set_option maxHeartbeats 1600000 in
set_option maxRecDepth 100000 in
theorem number_any (s : ByteArray) (hs : s.size ≤ 281474976710656) {w : World} (hl : Laid w) :
    Calls Tryz.prog 86 #[.string s] w fun e w' => e = .returned (.tuple #[.int .u64 (numS s).1, .bool (numS s).2]) ∧ Below w.heap.size w w' := by
  cases hp : Lib.parseUintB 64 s.data.toList with
  | ok u =>
    have hu := parseU_lt hp
    have he : numS s = (u, (decS u).toList == s.toList) := by unfold numS; rw [hp]
    rw [he]
    have HP := Lib.hid (Tryz.strconv_ParseUint_10_at64_ok s (by omega) u hp w)
    have HF := Lib.hid (fun w' (hb : Below w.heap.size w w') => fmtU u hu (hl.below hb))
    obtain ⟨t, ht⟩ : ∃ t, decS u = t := ⟨_, rfl⟩
    rw [ht] at HF ⊢
    clear hl he hp ht
    go_enter Tryz.func86, Tryz.ntmps86
    go_wp2_with fail
    refine HP.out.mono ?_
    rintro e w1 ⟨rfl, hw1⟩
    have HB1 := Lib.hid (show Below w.heap.size w w1 by
      rcases hw1 with rfl | rfl
      · exact Below.refl _ _
      · exact Lib.bytesWorld_below _ _ _)
    clear hw1
    go_wp2_with fail
    refine (HF.out _ HB1.out).mono ?_
    rintro e w2 ⟨rfl, hb⟩
    have HB2 := Lib.hid (HB1.out.trans (hb.mono HB1.out.size))
    clear hb
    go_wp2_with fail
    go_ret2
    exact ⟨rfl, HB2.out⟩
  | range =>
    have he : numS s = (18446744073709551615, false) := by unfold numS; rw [hp]
    rw [he]
    obtain ⟨tp, p, hv⟩ := hl.rng
    have HP := Lib.hid (Tryz.strconv_ParseUint_10_at64_range_var s hs hp tp p w hv)
    clear hl he hp hv
    go_enter Tryz.func86, Tryz.ntmps86
    go_wp2_with fail
    refine HP.out.mono ?_
    rintro e w1 ⟨N, rfl, _, _, hb⟩
    have HB1 := Lib.hid hb
    clear hb
    go_wp2_with fail
    go_ret2
    exact ⟨rfl, HB1.out⟩
  | _ =>
    have he : numS s = (0, false) := by unfold numS; rw [hp]
    rw [he]
    obtain ⟨tp, p, hv⟩ := hl.syn
    have HP := Lib.hid (Tryz.strconv_ParseUint_10_at64_syntax_var s hs hp tp p w hv)
    clear hl he hp hv
    go_enter Tryz.func86, Tryz.ntmps86
    go_wp2_with fail
    refine HP.out.mono ?_
    rintro e w1 ⟨N, rfl, _, _, hb⟩
    have HB1 := Lib.hid hb
    clear hb
    go_wp2_with fail
    go_ret2
    exact ⟨rfl, HB1.out⟩
end Go.Proofs.YtmaemgihhipllaaGreatDoor
