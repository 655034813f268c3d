/- Lemmas and walks for QuickIsRow, part 2 of 4: the texts Pck12, Pck13, Pck14, Pck15, Pck16, Txt, PckA. -/
import Derived.Test.YtfbhddllimfdlaaDoorMB1
import Derived.RangeFuncNested
import Derived.RangeFuncBound
import Derived.RangeFuncCalls
import Derived.RangeFuncLeaves
import Derived.Shelf.Abstract
import Derived.OwnWalkIn
import Derived.TacticsInMore
import Derived.LoopNIn
import Derived.LoopIn
import Derived.ControlIn
import Derived.Deep.Cut
import Derived.WalkSpells
import Derived.WalkLawsBesides
import Derived.Lib.Hide
import Derived.Deep.QuietTactic
import Derived.BigQuiet
import Derived.ChangeSame
/- pack.change. -/
namespace Go.Proofs.YtfbhddllimfdlaaDoor
set_option linter.unusedVariables false
set_option linter.unusedSimpArgs false
open Go.RowKit
theorem sizeP_cut {L M : List ByteArray} {i j : Nat} (hij : i ≤ j) (hj : j ≤ L.length) : sizeP (L.take i ++ M ++ L.drop j) + offL L j = offL L i + (bodyL M).length + sizeP L := by
  have h1 : bodyL L = bodyL (L.take j) ++ bodyL (L.drop j) := by rw [← bodyL_append, List.take_append_drop]
  unfold sizeP offL
  rw [bodyL_append, bodyL_append, h1]
  simp only [List.length_append]
  omega
theorem packL_cut {L M : List ByteArray} {i j : Nat} : packL (L.take i ++ M ++ L.drop j) = leN 4 (sizeP (L.take i ++ M ++ L.drop j)) ++ (leN 4 (L.take i ++ M ++ L.drop j).length ++ (bodyL (L.take i) ++ (bodyL M ++ (bodyL (L.drop j) ++ [255])))) := by
  unfold packL
  rw [bodyL_append, bodyL_append]
  simp only [List.append_assoc]
set_option maxHeartbeats 3200000 in
set_option maxRecDepth 100000 in
theorem change_row {w : World} {p g cap : Nat} {cur : Array Value} {L : List ByteArray} (h : PackRow w p g cap cur L) (i j : Nat) (hij : i ≤ j) (hjl : j ≤ L.length) (M : List ByteArray) (ok : OKL (L.take i ++ M ++ L.drop j)) (ea : Option Addr) (ne ec : Nat) (hec : ne ≤ ec) (hne : (bodyL M).length = ne)
    (hes : ne = 0 ∨ ∃ b q, ea = some ⟨b, q, none⟩ ∧ ∀ i (hi : i < (bodyL M).length), w.cell? ⟨b, q + i, none⟩ = some (.int .u8 (bodyL M)[i].toNat)) (more : Int) (hmore : (L.length : Int) + more = ((L.take i ++ M ++ L.drop j).length : Nat)) :
    Calls Tryd.prog 94 #[.pointer (some ⟨p, 0, none⟩), .int .i64 (offL L i), .int .i64 (offL L j), .slice ea ne ec, .int .i64 more] w fun e w' => e = .returned (.tuple #[]) ∧ (∃ cap' cur', PackRow w' p w.heap.size cap' cur' (L.take i ++ M ++ L.drop j)) ∧ Chg (fun k => k = p) w w' := by
  obtain ⟨i0, q1, q2, q3, q4⟩ := info_parts info_u8
  have hcutN := sizeP_cut (M := M) hij hjl
  rw [hne] at hcutN
  have hcutL := packL_cut (L := L) (M := M) (i := i) (j := j)
  have h9 := offL_lt L i
  have h9j := offL_lt L j
  have hmono := offL_mono (L := L) hij
  have htk := packL_take L i
  have hdr := packL_drop L j
  have hdl := drop_length L j
  have hln := packL_length L
  have c0 := h.cell0
  have hpl := heap_lt h.head
  have hgl := h.row.lt
  have hne1 := h.ne
  have hle := h.le
  have hsz := h.ok.size
  have hcm := h.capm
  have hmany := h.ok.many
  have hLen := plen_row h
  obtain ⟨L', hL'⟩ : ∃ L', L.take i ++ M ++ L.drop j = L' := ⟨_, rfl⟩
  rw [hL'] at ok hmore hcutN hcutL ⊢
  have okz := ok.size
  have okm := ok.many
  obtain ⟨z, hz⟩ : ∃ z, sizeP L' = z := ⟨_, rfl⟩
  obtain ⟨n', hn'⟩ : ∃ n', L'.length = n' := ⟨_, rfl⟩
  obtain ⟨f, hf⟩ : ∃ f, offL L i = f := ⟨_, rfl⟩
  obtain ⟨t, ht⟩ : ∃ t, offL L j = t := ⟨_, rfl⟩
  obtain ⟨sz, hsz'⟩ : ∃ sz, sizeP L = sz := ⟨_, rfl⟩
  obtain ⟨B, hB⟩ : ∃ B, bodyL (L.take i) = B := ⟨_, rfl⟩
  obtain ⟨E, hE⟩ : ∃ E, bodyL M = E := ⟨_, rfl⟩
  obtain ⟨D, hD⟩ : ∃ D, bodyL (L.drop j) ++ [255] = D := ⟨_, rfl⟩
  rw [hf] at h9 hmono htk hcutN
  rw [ht] at h9j hmono hdr hdl hcutN
  rw [hz] at okz hcutN hcutL
  rw [hn'] at okm hmore hcutL
  rw [hsz'] at h9 h9j htk hdl hln c0 hle hsz hcutN
  rw [hE] at hne hes
  rw [hB, hE, hD] at hcutL
  rw [hB] at htk
  rw [hD] at hdr
  rw [hf, ht]
  obtain ⟨G, hG⟩ : ∃ G, w.heap.size = G := ⟨_, rfl⟩
  have hDl : D.length = sz - t := by rw [← hdr, hdl]
  have hAl : (leN 4 sz ++ (leN 4 L.length ++ B)).length = f := by rw [← htk]; simp; omega
  obtain ⟨A, hA⟩ : ∃ A, leN 4 sz ++ (leN 4 L.length ++ B) = A := ⟨_, rfl⟩
  rw [hA] at htk hAl
  -- the new row
  obtain ⟨cs0, hcs0⟩ : ∃ cs0, cs0 = (List.replicate z (Value.int .u8 0)).toArray := ⟨_, rfl⟩
  have hmk : (Instr.makeSlice 68 (.int .i64 z) (.int .i64 z)).run Tryd.prog w = .ok (.slice (some ⟨w.heap.size, 0, none⟩) z z) (w.alloc (.cells cs0 5)) := by
    rw [hcs0]; exact run_make_row w _ _ i0 _ 1 Tryd.underlying68 q1 q2 q3 q4 rfl z (by unfold maxLen; omega) (by omega)
  have hzz : z = f + (ne + (sz - t)) := by omega
  have l0 : cs0.toList = List.replicate f (Value.int .u8 0) ++ (List.replicate ne (Value.int .u8 0) ++ List.replicate (sz - t) (Value.int .u8 0)) := by
    rw [hcs0, hzz]
    simp
  have z0 : cs0.size = z := by rw [hcs0]; simp
  obtain ⟨w1, hw1⟩ : ∃ w1, w1 = w.alloc (.cells cs0 5) := ⟨_, rfl⟩
  have r1 : RowAt w1 G 5 cs0 := by rw [hw1, ← hG]; exact .of (heap_new _ _)
  have c1 : Chg (fun k => k = G) w w1 := by rw [hw1]; exact Chg.alloc _ _ _
  have p1 := h.chg c1 (by omega) (by omega)
  -- what stands ahead
  obtain ⟨cs1, hcs1⟩ : ∃ cs1, cs1 = spliced cs0 0 (A.map u8v) := ⟨_, rfl⟩
  have hcp1 := copy_bytes (o := 0) (dl := z) (dc := z) r1 (some ⟨g, 0, none⟩) A f cap hAl (by omega) (by omega) (.inr ⟨g, 0, rfl, p1.cells 0 (by rw [List.drop_zero, hAl, htk])⟩)
  rw [← hcs1] at hcp1
  have l1 : cs1.toList = A.map u8v ++ (List.replicate ne (Value.int .u8 0) ++ List.replicate (sz - t) (Value.int .u8 0)) := by
    have := row_splice (a := []) (b := List.replicate f (Value.int .u8 0)) (c := List.replicate ne (Value.int .u8 0) ++ List.replicate (sz - t) (Value.int .u8 0)) (news := A.map u8v) (cur := cs0) l0 (by simp [hAl]) (o := 0) rfl
    rw [hcs1, this]; rfl
  have z1 : cs1.size = z := by rw [hcs1, spliced_size _ _ _ (by simp; omega), z0]
  obtain ⟨w2, hw2⟩ : ∃ w2, w2 = w1.setRow G cs1 := ⟨_, rfl⟩
  rw [← hw2] at hcp1
  have r2 : RowAt w2 G 5 cs1 := by rw [hw2]; exact r1.setRow (by omega)
  have c2 : Chg (fun k => k = G) w w2 := by rw [hw2]; exact c1.trans (Chg.setRow (fun k => k = G) _ _ _ rfl) fun _ h _ => h
  have p2 := h.chg c2 (by omega) (by omega)
  -- the bytes
  obtain ⟨cs2, hcs2⟩ : ∃ cs2, cs2 = spliced cs1 f (E.map u8v) := ⟨_, rfl⟩
  have hes2 : ne = 0 ∨ ∃ b q, ea = some ⟨b, q, none⟩ ∧ ∀ i (hi : i < E.length), w2.cell? ⟨b, q + i, none⟩ = some (.int .u8 E[i].toNat) := hes.imp id fun ⟨b, q, e, hc⟩ => ⟨b, q, e, fun i hi => by
    have := hc i hi
    have hlt := World.block_lt_of_cell? w _ this
    rw [← this]
    have hb : Below w.heap.size w w2 := belowChg (Below.refl _ _) c2 (Nat.le_refl _) fun k hk _ => by omega
    exact hb.cell hlt⟩
  have hcp2 := copy_bytes (o := f) (dl := z - f) (dc := z - f) r2 ea E ne ec hne (by omega) (by omega) hes2
  rw [← hcs2] at hcp2
  have l2 : cs2.toList = A.map u8v ++ (E.map u8v ++ List.replicate (sz - t) (Value.int .u8 0)) := by
    have := row_splice (b := List.replicate ne (Value.int .u8 0)) (news := E.map u8v) l1 (by simp [hne]) (o := f) (by simp [hAl])
    rw [hcs2, this]
  have z2 : cs2.size = z := by rw [hcs2, spliced_size _ _ _ (by simp; omega), z1]
  obtain ⟨w3, hw3⟩ : ∃ w3, w3 = w2.setRow G cs2 := ⟨_, rfl⟩
  rw [← hw3] at hcp2
  have r3 : RowAt w3 G 5 cs2 := by rw [hw3]; exact r2.setRow (by omega)
  have c3 : Chg (fun k => k = G) w w3 := by rw [hw3]; exact c2.trans (Chg.setRow (fun k => k = G) _ _ _ rfl) fun _ h _ => h
  have p3 := h.chg c3 (by omega) (by omega)
  -- what stands behind
  obtain ⟨cs3, hcs3⟩ : ∃ cs3, cs3 = spliced cs2 (f + ne) (D.map u8v) := ⟨_, rfl⟩
  have hcp3 := copy_bytes (w := w3.drewN 1) (o := f + ne) (dl := z - (f + ne)) (dc := z - (f + ne)) (r3.drewN 1) (some ⟨g, t, none⟩) D (sz - t) (cap - t) hDl (by omega) (by omega) (.inr ⟨g, t, rfl, (p3.chg (Chg.drewN (fun _ => False) w3 1) id id).cells t (by rw [hdr, List.take_length])⟩)
  rw [← hcs3] at hcp3
  have l3 : cs3.toList = A.map u8v ++ (E.map u8v ++ D.map u8v) := by
    have := row_splice (a := A.map u8v ++ E.map u8v) (b := List.replicate (sz - t) (Value.int .u8 0)) (c := []) (news := D.map u8v) (by rw [l2, List.append_nil, List.append_assoc]) (by simp [hDl]) (o := f + ne) (by simp [hAl, hne])
    rw [hcs3, this, List.append_nil, List.append_assoc]
  have z3 : cs3.size = z := by rw [hcs3, spliced_size _ _ _ (by simp; omega), z2]
  obtain ⟨w4, hw4⟩ : ∃ w4, w4 = (w3.drewN 1).setRow G cs3 := ⟨_, rfl⟩
  rw [← hw4] at hcp3
  have r4 : RowAt w4 G 5 cs3 := by rw [hw4]; exact (r3.drewN 1).setRow (by omega)
  have c4 : Chg (fun k => k = G) w w4 := by rw [hw4]; exact c3.trans ((Chg.drewN (fun k => k = G) w3 1).trans (Chg.setRow (fun k => k = G) _ _ _ rfl) fun _ h _ => h) fun _ h _ => h
  -- the head
  have hput1 := put_any G 0 4 z z cs3 5 w4 (by omega) (by omega) r4
  obtain ⟨cs5, hcs5⟩ : ∃ cs5, cs5 = wrs cs3 0 ((leN 4 z).map u8v) := ⟨_, rfl⟩
  rw [← hcs5] at hput1
  have l5 : cs5.toList = (leN 4 z).map u8v ++ ((leN 4 L.length).map u8v ++ (B.map u8v ++ (E.map u8v ++ D.map u8v))) := by
    rw [← hA] at l3
    have := row_wrs (a := []) (b := (leN 4 sz).map u8v) (c := (leN 4 L.length).map u8v ++ (B.map u8v ++ (E.map u8v ++ D.map u8v))) (b' := (leN 4 z).map u8v) (cur := cs3) (by rw [l3]; simp) (by simp) (o := 0) rfl
    rw [hcs5, this]; rfl
  have z5 : cs5.size = z := by rw [hcs5, wrs_size, z3]
  obtain ⟨w5, hw5⟩ : ∃ w5, w5 = w4.setRow G cs5 := ⟨_, rfl⟩
  have r5 : RowAt w5 G 5 cs5 := by rw [hw5]; exact r4.setRow (by omega)
  have c5 : Chg (fun k => k = G) w w5 := by rw [hw5]; exact c4.trans (Chg.setRow (fun k => k = G) _ _ _ rfl) fun _ h _ => h
  have hput2 := put_any G 4 4 (z - 4) n' cs5 5 w5 (by omega) (by omega) r5
  obtain ⟨cs6, hcs6⟩ : ∃ cs6, cs6 = wrs cs5 4 ((leN 4 n').map u8v) := ⟨_, rfl⟩
  rw [← hcs6] at hput2
  have l6 : cs6.toList = (packL L').map u8v := by
    have := row_wrs (a := (leN 4 z).map u8v) (b := (leN 4 L.length).map u8v) (c := B.map u8v ++ (E.map u8v ++ D.map u8v)) (b' := (leN 4 n').map u8v) (cur := cs5) l5 (by simp) (o := 4) (by simp)
    rw [hcs6, this, hcutL]; simp
  have z6 : cs6.size = z := by rw [hcs6, wrs_size, z5]
  obtain ⟨w6, hw6⟩ : ∃ w6, w6 = w5.setRow G cs6 := ⟨_, rfl⟩
  have r6 : RowAt w6 G 5 cs6 := by rw [hw6]; exact r5.setRow (by omega)
  have c6 : Chg (fun k => k = G) w w6 := by rw [hw6]; exact c5.trans (Chg.setRow (fun k => k = G) _ _ _ rfl) fun _ h _ => h
  have p6 := h.chg c6 (by omega) (by omega)
  obtain ⟨w7, hw7⟩ : ∃ w7, w7 = w6.setCell ⟨p, 0, none⟩ (.slice (some ⟨G, 0, none⟩) z z) := ⟨_, rfl⟩
  have hd7 : w7.heap[p]? = some (.cells #[.slice (some ⟨G, 0, none⟩) z z] 70 (0, 0)) := by rw [hw7]; exact setCell_head p6.head 0 _
  have c67 : Chg (fun k => k = p) w6 w7 := by rw [hw7]; exact Chg.setCell (fun k => k = p) _ _ _ rfl
  have r7 := r6.keep c67 (show ¬ G = p by omega)
  have HFin := Lib.hid (show (∃ cap' cur', PackRow w7 p G cap' cur' L') ∧ Chg (fun k => k = p) w w7 from
    ⟨⟨z, cs6, { head := by rw [hz]; exact hd7, row := r7, size := z6, le := by omega, capm := by unfold maxLen; omega, bytes := by rw [← l6, hz, List.take_of_length_le (by rw [Array.length_toList]; omega)], ok := ok }⟩,
      (c6.mono (S' := fun k => k = p) fun k hk hlt => by omega).trans c67 fun _ h _ => h⟩)
  have c01 := p1.cell0
  have c02 := p2.cell0
  have c03 := p3.cell0
  have c06 := p6.cell0
  have f06 := frozen_in p6.head 0
  rw [hsz'] at c01 c02 c03 c06
  have hszE : (sz : Int) - ((t : Int) - (f : Int)) + (ne : Int) = (z : Int) := by omega
  obtain ⟨X1, fx, hX1, hfx, hFx⟩ := classOf (fun x => x.cell? ⟨p, 0, none⟩ = some (.slice (some ⟨g, 0, none⟩) sz cap)) c03
  have HF1 := Lib.hid (hFx w3.drew c03)
  have HLen := Lib.hid hLen
  have HC1 := Lib.hid hcp1
  have HC2 := Lib.hid hcp2
  have HC3 := Lib.hid hcp3
  have HP1 := Lib.hid hput1
  have HP2 := Lib.hid hput2
  have HW1 := Lib.hid hw1
  have HW5 := Lib.hid hw5
  have HW6 := Lib.hid hw6
  have HW7 := Lib.hid hw7
  have HG := Lib.hid hG
  unfold maxLen at hcm
  have hb1 : f ≤ sz := by omega
  have hb2 : ¬ z = f := by omega
  have hb3 : ¬ z = f + ne := by omega
  have hb4 : ¬ cap = t := by omega
  have hb5 : f ≤ z := by omega
  have hb6 : f + ne ≤ z := by omega
  have hb7 : t ≤ sz := by omega
  have hb8 : 9 ≤ z := by omega
  have hb9 : ¬ z = 4 := by omega
  rw [hG] at hmk
  clear hFx h p1 p2 p3 p6 hLen hcp1 hcp2 hcp3 hput1 hput2 hw1 hw2 hw3 hw4 hw5 hw6 hw7 hd7 c67 r7 c1 c2 c3 c4 c5 c6 r1 r2 r3 r4 r5 r6 l0 l1 l2 l3 l5 l6 z0 z1 z2 z3 z5 z6 hcs0 hcs1 hcs2 hcs3 hcs5 hcs6 hzz hes hes2 hA htk hAl hDl hcutN hcutL ok hmany hdr hdl hln h9 h9j hmono q1 q2 q3 q4 hL' hz hn' hf ht hsz' hB hE hD hij hjl hne hne1 hpl hgl
  go_enter Tryd.func94, Tryd.ntmps94
  go_wp2_with fail
  refine HLen.out.mono ?_
  rintro e w' ⟨rfl, rfl⟩
  go_upto_region 3 with (fail)
  rw [← HW1.out]
  have hC1 := HC1.out
  have hC2 := HC2.out
  go_upto_region 5 with (fail)
  clear hC1 hC2 c0 c01 c02 c03 hmk hszE
  refine wp_region_text ⟨[12], [], 12⟩ (fun w' => ∃ x : X1, w' = fx x) (by kernel_rfl) (by kernel_rfl) HF1.out ?_
  refine wpC_seg false (HF1.out) 12 0 _ _ (by rfl) (by rfl) ?_
  simp only [List.take_succ_cons, List.take_zero, List.drop_succ_cons, List.drop_zero, Bool.false_eq_true, if_false, Nat.zero_add, Nat.reduceAdd]
  repeat (go_big_quiet_step (fail))
  refine wpQuiet_nil ?_
  refine wpC_value (by rfl) (by rfl) (exec_copy rfl HC3.out) (fun h => absurd h (by decide)) ?_
  refine wpC_nil ?_
  simp only [Act.put, List.setIfInBounds_toArray, List.set_cons_succ, List.set_cons_zero]
  clear hfx hX1 HF1 fx
  go_wp2_with fail
  refine HP1.out.mono ?_
  rintro e w' ⟨rfl, hw'⟩
  obtain rfl : w' = w5 := hw'.trans HW5.out.symm
  clear hw'
  go_wp2_with fail
  refine HP2.out.mono ?_
  rintro e w' ⟨rfl, hw'⟩
  obtain rfl : w' = w6 := hw'.trans HW6.out.symm
  clear hw'
  go_wp2_with fail
  rw [← HW7.out]
  go_end0
  exact ⟨rfl, by rw [HG.out]; exact HFin.out⟩
end Go.Proofs.YtfbhddllimfdlaaDoor

/- pack: New, Insert, as objects. -/
namespace Go.Proofs.YtfbhddllimfdlaaDoor
set_option linter.unusedVariables false
set_option linter.unusedSimpArgs false
open Go.RowKit
/-- A pack and its blocks. -/
def PackF (w : World) (p : Nat) (F : Nat → Prop) (L : List ByteArray) : Prop := ∃ g cap cur, PackRow w p g cap cur L ∧ ∀ k, F k ↔ k = p ∨ k = g
section
variable {w : World} {p : Nat} {F : Nat → Prop} {L : List ByteArray}
theorem PackF.ok (h : PackF w p F L) : OKL L := by obtain ⟨_, _, _, h, _⟩ := h; exact h.ok
theorem PackF.lt (h : PackF w p F L) {k : Nat} (hk : F k) : k < w.heap.size := by
  obtain ⟨g, cap, cur, h, hF⟩ := h
  rcases (hF k).1 hk with rfl | rfl
  · exact heap_lt h.head
  · exact h.row.lt
theorem PackF.chg (h : PackF w p F L) {S : Nat → Prop} {w' : World} (hc : Chg S w w') (hn : ∀ k, F k → ¬ S k) : PackF w' p F L := by
  obtain ⟨g, cap, cur, h, hF⟩ := h
  exact ⟨g, cap, cur, h.chg hc (hn p ((hF p).2 (.inl rfl))) (hn g ((hF g).2 (.inr rfl))), hF⟩
theorem PackF.below (h : PackF w p F L) {w' : World} (hb : Below w.heap.size w w') : PackF w' p F L := h.chg (Chg.of_below (fun _ => False) hb) fun _ _ => id
theorem PackF.head (h : PackF w p F L) : F p := by obtain ⟨g, cap, cur, h, hF⟩ := h; exact (hF p).2 (.inl rfl)
end
theorem okl_nil : OKL [] := ⟨by decide, by decide, by simp⟩
set_option maxHeartbeats 800000 in
set_option maxRecDepth 100000 in
theorem packNew (w : World) : Calls Tryd.prog 71 #[] w fun e w' => ∃ p, e = .returned (.pointer (some ⟨p, 0, none⟩)) ∧ (∃ F, PackF w' p F [] ∧ ∀ k, F k → w.heap.size ≤ k) ∧ w.heap.size ≤ p ∧ Chg (fun _ => False) w w' := by
  obtain ⟨w1, hw1⟩ : ∃ w1, w1 = w.alloc (.cells #[.int .u8 9, .int .u8 0, .int .u8 0, .int .u8 0, .int .u8 0, .int .u8 0, .int .u8 0, .int .u8 0, .int .u8 255] 5) := ⟨_, rfl⟩
  obtain ⟨w2, hw2⟩ : ∃ w2, w2 = w1.alloc (.cells #[.slice (some ⟨w.heap.size, 0, none⟩) 9 9] 70) := ⟨_, rfl⟩
  have hs1 : w1.heap.size = w.heap.size + 1 := by rw [hw1]; simp
  have HR := Lib.hid (show PackRow w2 w1.heap.size w.heap.size 9 #[.int .u8 9, .int .u8 0, .int .u8 0, .int .u8 0, .int .u8 0, .int .u8 0, .int .u8 0, .int .u8 0, .int .u8 255] [] from
    { head := by rw [hw2]; exact heap_new _ _, row := by rw [hw2, hw1]; exact .of (heap_old (heap_new _ _) _), size := rfl, le := by decide, capm := by decide, bytes := rfl, ok := okl_nil })
  have HC := Lib.hid (show Chg (fun _ => False) w w2 by rw [hw2, hw1]; exact (Chg.alloc _ _ _).trans (Chg.alloc _ _ _) fun _ h _ => h)
  have HW1 := Lib.hid hw1
  have HW2 := Lib.hid hw2
  rw [hs1] at HR
  clear hw1 hw2 hs1
  go_enter Tryd.func71, Tryd.ntmps71
  go_wp2_with fail
  rw [← HW1.out]
  rw [← HW2.out]
  go_ret
  exact ⟨_, rfl, ⟨_, ⟨_, _, _, HR.out, fun k => Iff.rfl⟩, fun k hk => by rcases hk with rfl | rfl <;> omega⟩, by omega, HC.out⟩
def insP (L : List ByteArray) (a : Int) (s : ByteArray) : Int × List ByteArray :=
  if a < 0 ∨ (L.length : Int) < a then (1, L) else if 65536 < s.size ∨ 1048576 ≤ L.length then (3, L) else if 1073741824 < sizeP L + (entL s).length then (3, L) else (0, L.take a.toNat ++ [s] ++ L.drop a.toNat)
theorem take_drop_len {L : List ByteArray} {i : Nat} (h : i ≤ L.length) (M : List ByteArray) : (L.take i ++ M ++ L.drop i).length = L.length + M.length := by simp; omega
theorem ok_ins {L : List ByteArray} (h : OKL L) {i : Nat} (hi : i ≤ L.length) {s : ByteArray} (hs : s.size ≤ 65536) (hm : L.length < 1048576) (hz : sizeP L + (entL s).length ≤ 1073741824) : OKL (L.take i ++ [s] ++ L.drop i) := by
  have h1 := sizeP_cut (L := L) (M := [s]) (Nat.le_refl i) hi
  have h2 : bodyL [s] = entL s := by rw [bodyL_cons, bodyL_nil, List.append_nil]
  rw [h2] at h1
  refine ⟨by omega, by rw [take_drop_len hi]; simp; omega, fun x hx => ?_⟩
  simp only [List.mem_append, List.mem_singleton] at hx
  rcases hx with (hx | rfl) | hx
  · exact h.each _ (List.mem_of_mem_take hx)
  · exact hs
  · exact h.each _ (List.mem_of_mem_drop hx)
set_option maxHeartbeats 1600000 in
set_option maxRecDepth 100000 in
theorem packInsert {w : World} {p : Nat} {F : Nat → Prop} {L : List ByteArray} (h : PackF w p F L) (hl : Laid w) (a : Int) (ha : -9223372036854775808 ≤ a ∧ a ≤ 9223372036854775807) (s : ByteArray) (hs : s.size ≤ 9000000000000000000) :
    Calls Tryd.prog 54 #[.pointer (some ⟨p, 0, none⟩), .int .i64 a, .string s] w fun e w' => e = .returned (.int .i64 (insP L a s).1) ∧ (∃ F', PackF w' p F' (insP L a s).2 ∧ Fresh w F F') ∧ Chg F w w' := by
  obtain ⟨g, cap, cur, hr, hF⟩ := h
  have HFst := Lib.hid (show Chg F w w ∧ ∃ F', PackF w p F' L ∧ Fresh w F F' from ⟨Chg.refl _ _, F, ⟨g, cap, cur, hr, hF⟩, fun k hk => .inl hk⟩)
  have HG := Lib.hid (gone_row hr.cell0)
  have HL := Lib.hid (plen_row hr)
  have hmany := hr.ok.many
  have hsz := hr.ok.size
  by_cases h1 : a < 0 ∨ (L.length : Int) < a
  · have hp : insP L a s = (1, L) := by unfold insP; rw [if_pos h1]
    rw [hp]
    clear hr hF hl hp
    by_cases h0 : a < 0
    · have hd : decide (a < 0) = true := by simp; omega
      clear h1
      go_enter Tryd.func54, Tryd.ntmps54
      go_wp2_with fail
      refine HG.out.mono ?_
      rintro e w' ⟨rfl, rfl⟩
      go_wp2_with fail
      go_ret
      exact ⟨rfl, HFst.out.2, HFst.out.1⟩
    · have hd : decide (a < 0) = false := by simp; omega
      have hd2 : decide ((L.length : Int) < a) = true := by simp; omega
      clear h1
      go_enter Tryd.func54, Tryd.ntmps54
      go_wp2_with fail
      refine HG.out.mono ?_
      rintro e w' ⟨rfl, rfl⟩
      go_wp2_with fail
      refine HL.out.mono ?_
      rintro e w' ⟨rfl, rfl⟩
      go_wp2_with fail
      go_ret
      exact ⟨rfl, HFst.out.2, HFst.out.1⟩
  · obtain ⟨i, rfl⟩ : ∃ i : Nat, a = (i : Int) := ⟨a.toNat, by omega⟩
    have hil : i ≤ L.length := by omega
    have hd : decide ((i : Int) < 0) = false := by simp
    have hd2 : decide (L.length < i) = false := by simp [hil]
    by_cases h2 : 65536 < s.size ∨ 1048576 ≤ L.length
    · have hp : insP L i s = (3, L) := by unfold insP; rw [if_neg h1, if_pos h2]
      rw [hp]
      clear hr hF hl hp h1
      by_cases h3 : 65536 < s.size
      · have hd3 : decide ((65536 : Int) < (s.size : Int)) = true := by simp; omega
        clear h2
        go_enter Tryd.func54, Tryd.ntmps54
        go_wp2_with fail
        refine HG.out.mono ?_
        rintro e w' ⟨rfl, rfl⟩
        go_wp2_with fail
        refine HL.out.mono ?_
        rintro e w' ⟨rfl, rfl⟩
        go_wp2_with fail
        go_ret
        exact ⟨rfl, HFst.out.2, HFst.out.1⟩
      · have hd3 : decide ((65536 : Int) < (s.size : Int)) = false := by simp; omega
        have hd4 : decide ((1048576 : Int) ≤ (L.length : Int)) = true := by simp; omega
        clear h2
        go_enter Tryd.func54, Tryd.ntmps54
        go_wp2_with fail
        refine HG.out.mono ?_
        rintro e w' ⟨rfl, rfl⟩
        go_wp2_with fail
        refine HL.out.mono ?_
        rintro e w' ⟨rfl, rfl⟩
        go_wp2_with fail
        refine HL.out.mono ?_
        rintro e w' ⟨rfl, rfl⟩
        go_wp2_with fail
        go_ret
        exact ⟨rfl, HFst.out.2, HFst.out.1⟩
    · have hd3 : decide ((65536 : Int) < (s.size : Int)) = false := by simp; omega
      have hd4 : decide ((1048576 : Int) ≤ (L.length : Int)) = false := by simp; omega
      have HE := Lib.hid (entry_any s (by omega) hl)
      have c0 := hr.cell0
      have he := entL_length s (by omega)
      have hle := hr.le
      obtain ⟨ne, hne⟩ : ∃ ne, (entL s).length = ne := ⟨_, rfl⟩
      rw [hne] at HE he
      have hpl := heap_lt hr.head
      by_cases h5 : 1073741824 < sizeP L + ne
      · have hp : insP L i s = (3, L) := by unfold insP; rw [if_neg h1, if_neg h2, hne, if_pos h5]
        rw [hp]
        have hd5 : decide ((1073741824 : Int) < (sizeP L : Int) + (ne : Int)) = true := by simp; omega
        have HFst2 := Lib.hid (show ∀ w', Below w.heap.size w w' → Chg F w w' ∧ ∃ F', PackF w' p F' L ∧ Fresh w F F' from fun w' hb => ⟨Chg.of_below _ hb, F, ⟨g, cap, cur, hr.chg (Chg.of_below (fun _ => False) hb) id id, hF⟩, fun k hk => .inl hk⟩)
        clear hr hF hl hp h1 h2 HFst hne
        go_enter Tryd.func54, Tryd.ntmps54
        go_wp2_with fail
        refine HG.out.mono ?_
        rintro e w' ⟨rfl, rfl⟩
        go_wp2_with fail
        refine HL.out.mono ?_
        rintro e w' ⟨rfl, rfl⟩
        go_wp2_with fail
        refine HL.out.mono ?_
        rintro e w' ⟨rfl, rfl⟩
        go_wp2_with fail
        refine HE.out.mono ?_
        rintro e w1 ⟨v1, rfl, s1, b1⟩
        obtain ⟨a1, cp1, rfl, _⟩ := s1.arg
        have B1 := Lib.hid b1
        have c01 := (b1.cell (p := ⟨p, 0, none⟩) hpl).trans c0
        clear s1 b1 HE
        go_wp2_with fail
        go_ret
        exact ⟨rfl, (HFst2.out _ B1.out).2, (HFst2.out _ B1.out).1⟩
      · have hp : insP L i s = (0, L.take i ++ [s] ++ L.drop i) := by unfold insP; rw [if_neg h1, if_neg h2, hne, if_neg h5]; simp
        rw [hp]
        have hd5 : decide ((1073741824 : Int) < (sizeP L : Int) + (ne : Int)) = false := by simp; omega
        have okk := ok_ins hr.ok hil (s := s) (by omega) (by omega) (by rw [hne]; omega)
        have hb1 : bodyL [s] = entL s := by rw [bodyL_cons, bodyL_nil, List.append_nil]
        have HSk := Lib.hid (fun w' (hb : Below w.heap.size w w') => seek_row (hr.chg (Chg.of_below (fun _ => False) hb) id id) (hl.below hb) hil)
        have HCh := Lib.hid (fun w' (hb : Below w.heap.size w w') => change_row (hr.chg (Chg.of_below (fun _ => False) hb) id id) i i (Nat.le_refl _) hil [s] okk)
        have HFin := Lib.hid (show ∀ w' w'' , Below w.heap.size w w' → (∃ cap' cur', PackRow w'' p w'.heap.size cap' cur' (L.take i ++ [s] ++ L.drop i)) → Chg (fun k => k = p) w' w'' → (∃ F', PackF w'' p F' (L.take i ++ [s] ++ L.drop i) ∧ Fresh w F F') ∧ Chg F w w'' from fun w' w'' hb ⟨cap', cur', hr'⟩ hc =>
          ⟨⟨fun k => k = p ∨ k = w'.heap.size, ⟨_, cap', cur', hr', fun k => Iff.rfl⟩, fun k hk => hk.imp (fun e => (hF k).2 (.inl e)) fun e => by have := hb.size; omega⟩,
            (Chg.of_below F hb).trans hc fun k hk _ => (hF k).2 (.inl hk)⟩)
        have HO := Lib.hid (And.intro hb1 hne)
        have HTl := Lib.hid (take_drop_len hil [s])
        clear hr hF hl hp h1 h2 HFst hne okk hb1
        generalize offL L i = k at *
        generalize sizeP L = sz at *
        go_enter Tryd.func54, Tryd.ntmps54
        go_wp2_with fail
        refine HG.out.mono ?_
        rintro e w' ⟨rfl, rfl⟩
        go_wp2_with fail
        refine HL.out.mono ?_
        rintro e w' ⟨rfl, rfl⟩
        go_wp2_with fail
        refine HL.out.mono ?_
        rintro e w' ⟨rfl, rfl⟩
        go_wp2_with fail
        refine HE.out.mono ?_
        rintro e w1 ⟨v1, rfl, s1, b1⟩
        obtain ⟨a1, cp1, rfl, hargs⟩ := s1.arg
        have B1 := Lib.hid b1
        have S1 := Lib.hid s1
        have hcp1 := hargs.1
        have c01 := (b1.cell (p := ⟨p, 0, none⟩) hpl).trans c0
        clear s1 b1 HE hargs
        go_wp2_with fail
        refine (HSk.out _ B1.out).mono ?_
        rintro e w2 ⟨rfl, b2⟩
        have B2 := Lib.hid (B1.out.trans (b2.mono B1.out.size))
        have HC2 := Lib.hid (HCh.out w2 B2.out a1 ne cp1 hcp1 (by rw [HO.out.1, HO.out.2]) (by
          obtain ⟨b, o, e, hc⟩ := (S1.out.below b2).arg_bytes (by omega)
          cases e
          exact .inr ⟨b, o, rfl, by rw [HO.out.1]; exact hc⟩) 1 (by rw [HTl.out]; simp))
        clear b2 c01
        go_wp2_with fail
        refine HC2.out.mono ?_
        rintro e w3 ⟨rfl, hr3, c3⟩
        have HF3 := Lib.hid (HFin.out w2 w3 B2.out hr3 c3)
        clear hr3 c3
        go_wp2_with fail
        go_ret
        exact ⟨rfl, HF3.out.1, HF3.out.2⟩
end Go.Proofs.YtfbhddllimfdlaaDoor

/- pack: Set, Delete, and the other questions, as objects. -/
namespace Go.Proofs.YtfbhddllimfdlaaDoor
set_option linter.unusedVariables false
set_option linter.unusedSimpArgs false
open Go.RowKit
def setP (L : List ByteArray) (a : Int) (s : ByteArray) : Int × List ByteArray :=
  if placeB L.length a = false then (6, L) else if 65536 < s.size then (3, L) else
    if 1073741824 + (entL (L.getD (placeN L.length a).toNat ByteArray.empty)).length < sizeP L + (entL s).length then (3, L) else (0, L.take (placeN L.length a).toNat ++ [s] ++ L.drop ((placeN L.length a).toNat + 1))
theorem ok_set {L : List ByteArray} (h : OKL L) {i : Nat} (hi : i < L.length) {s : ByteArray} (hs : s.size ≤ 65536) (hz : sizeP L + (entL s).length ≤ 1073741824 + (entL L[i]).length) : OKL (L.take i ++ [s] ++ L.drop (i + 1)) := by
  have h1 := sizeP_cut (L := L) (M := [s]) (show i ≤ i + 1 by omega) (show i + 1 ≤ L.length by omega)
  have h2 : bodyL [s] = entL s := by rw [bodyL_cons, bodyL_nil, List.append_nil]
  have h3 := offL_succ hi
  rw [h2] at h1
  have hm := h.many
  refine ⟨by omega, by simp; omega, fun x hx => ?_⟩
  simp only [List.mem_append, List.mem_singleton] at hx
  rcases hx with (hx | rfl) | hx
  · exact h.each _ (List.mem_of_mem_take hx)
  · exact hs
  · exact h.each _ (List.mem_of_mem_drop hx)
set_option maxHeartbeats 1600000 in
set_option maxRecDepth 100000 in
theorem packSet {w : World} {p : Nat} {F : Nat → Prop} {L : List ByteArray} (h : PackF w p F L) (hl : Laid w) (a : Int) (ha : -9223372036854775808 ≤ a ∧ a ≤ 9223372036854775807) (s : ByteArray) (hs : s.size ≤ 9000000000000000000) :
    Calls Tryd.prog 56 #[.pointer (some ⟨p, 0, none⟩), .int .i64 a, .string s] w fun e w' => e = .returned (.int .i64 (setP L a s).1) ∧ (∃ F', PackF w' p F' (setP L a s).2 ∧ Fresh w F F') ∧ Chg F w w' := by
  obtain ⟨g, cap, cur, hr, hF⟩ := h
  have HFst := Lib.hid (show Chg F w w ∧ ∃ F', PackF w p F' L ∧ Fresh w F F' from ⟨Chg.refl _ _, F, ⟨g, cap, cur, hr, hF⟩, fun k hk => .inl hk⟩)
  have HG := Lib.hid (gone_row hr.cell0)
  have HP := Lib.hid (place_row hr a ha)
  have hmany := hr.ok.many
  have hsz := hr.ok.size
  cases hb : placeB L.length a with
  | false =>
    have hp : setP L a s = (6, L) := by unfold setP; rw [hb]; rfl
    rw [hp]
    rw [hb] at HP
    clear hr hF hl hp hb
    go_enter Tryd.func56, Tryd.ntmps56
    go_wp2_with fail
    refine HG.out.mono ?_
    rintro e w' ⟨rfl, rfl⟩
    go_wp2_with fail
    refine HP.out.mono ?_
    rintro e w' ⟨rfl, rfl⟩
    go_wp2_with fail
    go_ret
    exact ⟨rfl, HFst.out.2, HFst.out.1⟩
  | true =>
    obtain ⟨i, hi, hpi⟩ := placeB_lt hb
    have hgd : L.getD i ByteArray.empty = L[i] := by simp [List.getD, hi]
    rw [hb, hpi] at HP
    have hpf : setP L a s = if 65536 < s.size then (3, L) else if 1073741824 + (entL L[i]).length < sizeP L + (entL s).length then (3, L) else (0, L.take i ++ [s] ++ L.drop (i + 1)) := by
      unfold setP; rw [hb, hpi, Int.toNat_natCast, hgd]; rfl
    by_cases h3 : 65536 < s.size
    · have hp : setP L a s = (3, L) := by rw [hpf, if_pos h3]
      rw [hp]
      have hd3 : decide ((65536 : Int) < (s.size : Int)) = true := by simp; omega
      clear hr hF hl hp hpf hb hpi
      go_enter Tryd.func56, Tryd.ntmps56
      go_wp2_with fail
      refine HG.out.mono ?_
      rintro e w' ⟨rfl, rfl⟩
      go_wp2_with fail
      refine HP.out.mono ?_
      rintro e w' ⟨rfl, rfl⟩
      go_wp2_with fail
      go_ret
      exact ⟨rfl, HFst.out.2, HFst.out.1⟩
    · have hd3 : decide ((65536 : Int) < (s.size : Int)) = false := by simp; omega
      have hchg : ∀ w', Below w.heap.size w w' → PackRow w' p g cap cur L := fun w' hb => hr.chg (Chg.of_below (fun _ => False) hb) id id
      have HE := Lib.hid (fun w' (hb : Below w.heap.size w w') => entry_any s (by omega) (hl.below hb))
      have HSk := Lib.hid (seek_row hr hl (i := i) (by omega))
      have HNx := Lib.hid (fun w' (hb : Below w.heap.size w w') => next_row (hchg w' hb) (hl.below hb) hi)
      have c0 := hr.cell0
      have he := entL_length s (by omega)
      have hsm := hr.ok.small hi
      have hei := entL_length L[i] (by omega)
      have hle := hr.le
      have hoff := offL_succ hi
      have hofl := (offL_lt L (i + 1)).2
      have hb1 : bodyL [s] = entL s := by rw [bodyL_cons, bodyL_nil, List.append_nil]
      obtain ⟨ne, hne⟩ : ∃ ne, (entL s).length = ne := ⟨_, rfl⟩
      rw [hne] at HE he hpf
      have hpl := heap_lt hr.head
      have HFst2 := Lib.hid (show ∀ w', Below w.heap.size w w' → Chg F w w' ∧ ∃ F', PackF w' p F' L ∧ Fresh w F F' from fun w' hb => ⟨Chg.of_below _ hb, F, ⟨g, cap, cur, hchg w' hb, hF⟩, fun k hk => .inl hk⟩)
      by_cases h5 : 1073741824 + (entL L[i]).length < sizeP L + ne
      · have hp : setP L a s = (3, L) := by rw [hpf, if_neg h3, if_pos h5]
        rw [hp]
        have hd5 : decide ((1073741824 : Int) < (sizeP L : Int) - ((offL L (i + 1) : Int) - (offL L i : Int)) + (ne : Int)) = true := by simp; omega
        clear hr hF hl hp hpf hb hpi HFst hne hchg hgd h5
        generalize hk0 : offL L i = k at *
        generalize hk1 : offL L (i + 1) = k' at *
        generalize sizeP L = sz at *
        clear hk0 hk1
        have hkk : k ≤ k' := by omega
        have hoff' : k' ≤ k + 65550 := by omega
        clear hoff hei
        go_enter Tryd.func56, Tryd.ntmps56
        go_wp2_with fail
        refine HG.out.mono ?_
        rintro e w' ⟨rfl, rfl⟩
        go_wp2_with fail
        refine HP.out.mono ?_
        rintro e w' ⟨rfl, rfl⟩
        go_wp2_with fail
        refine HSk.out.mono ?_
        rintro e w1 ⟨rfl, b1⟩
        have B1 := Lib.hid b1
        clear b1
        go_wp2_with fail
        refine (HE.out _ B1.out).mono ?_
        rintro e w2 ⟨v1, rfl, s1, b2⟩
        obtain ⟨a1, cp1, rfl, _⟩ := s1.arg
        have B2 := Lib.hid (B1.out.trans (b2.mono B1.out.size))
        clear s1 b2 HE
        go_wp2_with fail
        refine (HNx.out _ B2.out).mono ?_
        rintro e w3 ⟨rfl, b3⟩
        have B3 := Lib.hid (B2.out.trans (b3.mono B2.out.size))
        have c03 := (B3.out.cell (p := ⟨p, 0, none⟩) hpl).trans c0
        clear b3
        go_wp2_with fail
        go_ret
        exact ⟨rfl, (HFst2.out _ B3.out).2, (HFst2.out _ B3.out).1⟩
      · have hp : setP L a s = (0, L.take i ++ [s] ++ L.drop (i + 1)) := by rw [hpf, if_neg h3, if_neg h5]
        rw [hp]
        have hd5 : decide ((1073741824 : Int) < (sizeP L : Int) - ((offL L (i + 1) : Int) - (offL L i : Int)) + (ne : Int)) = false := by simp; omega
        have okk := ok_set hr.ok hi (s := s) (by omega) (by rw [hne]; omega)
        have HCh := Lib.hid (fun w' (hb : Below w.heap.size w w') => change_row (hchg w' hb) i (i + 1) (by omega) (by omega) [s] okk)
        have HFin := Lib.hid (show ∀ w' w'' , Below w.heap.size w w' → (∃ cap' cur', PackRow w'' p w'.heap.size cap' cur' (L.take i ++ [s] ++ L.drop (i + 1))) → Chg (fun k => k = p) w' w'' → (∃ F', PackF w'' p F' (L.take i ++ [s] ++ L.drop (i + 1)) ∧ Fresh w F F') ∧ Chg F w w'' from fun w' w'' hb ⟨cap', cur', hr'⟩ hc =>
          ⟨⟨fun k => k = p ∨ k = w'.heap.size, ⟨_, cap', cur', hr', fun k => Iff.rfl⟩, fun k hk => hk.imp (fun e => (hF k).2 (.inl e)) fun e => by have := hb.size; omega⟩,
            (Chg.of_below F hb).trans hc fun k hk _ => (hF k).2 (.inl hk)⟩)
        have HO := Lib.hid (And.intro hb1 hne)
        have HTl := Lib.hid (show (L.take i ++ [s] ++ L.drop (i + 1)).length = L.length by simp; omega)
        clear hr hF hl hp hpf hb hpi HFst hne hchg hgd h5 okk hb1
        generalize hk0 : offL L i = k at *
        generalize hk1 : offL L (i + 1) = k' at *
        generalize sizeP L = sz at *
        clear hk0 hk1
        have hkk : k ≤ k' := by omega
        have hoff' : k' ≤ k + 65550 := by omega
        clear hoff hei
        go_enter Tryd.func56, Tryd.ntmps56
        go_wp2_with fail
        refine HG.out.mono ?_
        rintro e w' ⟨rfl, rfl⟩
        go_wp2_with fail
        refine HP.out.mono ?_
        rintro e w' ⟨rfl, rfl⟩
        go_wp2_with fail
        refine HSk.out.mono ?_
        rintro e w1 ⟨rfl, b1⟩
        have B1 := Lib.hid b1
        clear b1
        go_wp2_with fail
        refine (HE.out _ B1.out).mono ?_
        rintro e w2 ⟨v1, rfl, s1, b2⟩
        obtain ⟨a1, cp1, rfl, hargs⟩ := s1.arg
        have B2 := Lib.hid (B1.out.trans (b2.mono B1.out.size))
        have S1 := Lib.hid s1
        have hcp1 := hargs.1
        clear s1 b2 HE hargs
        go_wp2_with fail
        refine (HNx.out _ B2.out).mono ?_
        rintro e w3 ⟨rfl, b3⟩
        have B3 := Lib.hid (B2.out.trans (b3.mono B2.out.size))
        have c03 := (B3.out.cell (p := ⟨p, 0, none⟩) hpl).trans c0
        have HC2 := Lib.hid (HCh.out w3 B3.out a1 ne cp1 hcp1 (by rw [HO.out.1, HO.out.2]) (by
          obtain ⟨b, o, e, hc⟩ := (S1.out.below b3).arg_bytes (by omega)
          cases e
          exact .inr ⟨b, o, rfl, by rw [HO.out.1]; exact hc⟩) 0 (by rw [HTl.out]; simp))
        clear b3
        go_wp2_with fail
        refine HC2.out.mono ?_
        rintro e w4 ⟨rfl, hr3, c3⟩
        have HF3 := Lib.hid (HFin.out w3 w4 B3.out hr3 c3)
        clear hr3 c3
        go_wp2_with fail
        go_ret
        exact ⟨rfl, HF3.out.1, HF3.out.2⟩
def delP (L : List ByteArray) (a n : Int) : Int × List ByteArray :=
  if a < 0 ∨ (L.length : Int) < a ∨ n < 0 ∨ (L.length : Int) - a < n then (1, L) else (0, L.take a.toNat ++ L.drop (a.toNat + n.toNat))
theorem ok_del {L : List ByteArray} (h : OKL L) {i j : Nat} (hij : i ≤ j) (hj : j ≤ L.length) : OKL (L.take i ++ [] ++ L.drop j) := by
  have h1 := sizeP_cut (L := L) (M := []) hij hj
  have h3 := offL_mono (L := L) hij
  rw [bodyL_nil, List.length_nil] at h1
  have hz := h.size
  have hm := h.many
  refine ⟨by omega, by simp; omega, fun x hx => ?_⟩
  simp only [List.append_nil, List.mem_append] at hx
  rcases hx with hx | hx
  · exact h.each _ (List.mem_of_mem_take hx)
  · exact h.each _ (List.mem_of_mem_drop hx)
set_option maxHeartbeats 1600000 in
set_option maxRecDepth 100000 in
theorem packDelete {w : World} {p : Nat} {F : Nat → Prop} {L : List ByteArray} (h : PackF w p F L) (hl : Laid w) (a n : Int) (ha : -9223372036854775808 ≤ a ∧ a ≤ 9223372036854775807) (hn : -9223372036854775808 ≤ n ∧ n ≤ 9223372036854775807) :
    Calls Tryd.prog 58 #[.pointer (some ⟨p, 0, none⟩), .int .i64 a, .int .i64 n] w fun e w' => e = .returned (.int .i64 (delP L a n).1) ∧ (∃ F', PackF w' p F' (delP L a n).2 ∧ Fresh w F F') ∧ Chg F w w' := by
  obtain ⟨g, cap, cur, hr, hF⟩ := h
  have HFst := Lib.hid (show Chg F w w ∧ ∃ F', PackF w p F' L ∧ Fresh w F F' from ⟨Chg.refl _ _, F, ⟨g, cap, cur, hr, hF⟩, fun k hk => .inl hk⟩)
  have HG := Lib.hid (gone_row hr.cell0)
  have HL := Lib.hid (plen_row hr)
  have hmany := hr.ok.many
  by_cases h1 : a < 0 ∨ (L.length : Int) < a ∨ n < 0 ∨ (L.length : Int) - a < n
  · have hp : delP L a n = (1, L) := by unfold delP; rw [if_pos h1]
    rw [hp]
    clear hr hF hl hp
    by_cases h0 : a < 0
    · have hd : decide (a < 0) = true := by simp; omega
      clear h1
      go_enter Tryd.func58, Tryd.ntmps58
      go_wp2_with fail
      refine HG.out.mono ?_
      rintro e w' ⟨rfl, rfl⟩
      go_wp2_with fail
      go_ret
      exact ⟨rfl, HFst.out.2, HFst.out.1⟩
    · have hd : decide (a < 0) = false := by simp; omega
      by_cases h2 : (L.length : Int) < a
      · have hd2 : decide ((L.length : Int) < a) = true := by simp; omega
        clear h1
        go_enter Tryd.func58, Tryd.ntmps58
        go_wp2_with fail
        refine HG.out.mono ?_
        rintro e w' ⟨rfl, rfl⟩
        go_wp2_with fail
        refine HL.out.mono ?_
        rintro e w' ⟨rfl, rfl⟩
        go_wp2_with fail
        go_ret
        exact ⟨rfl, HFst.out.2, HFst.out.1⟩
      · have hd2 : decide ((L.length : Int) < a) = false := by simp; omega
        by_cases h3 : n < 0
        · have hd3 : decide (n < 0) = true := by simp; omega
          clear h1
          go_enter Tryd.func58, Tryd.ntmps58
          go_wp2_with fail
          refine HG.out.mono ?_
          rintro e w' ⟨rfl, rfl⟩
          go_wp2_with fail
          refine HL.out.mono ?_
          rintro e w' ⟨rfl, rfl⟩
          go_wp2_with fail
          go_ret
          exact ⟨rfl, HFst.out.2, HFst.out.1⟩
        · have hd3 : decide (n < 0) = false := by simp; omega
          have hd4 : decide ((L.length : Int) - a < n) = true := by simp; omega
          clear h1
          go_enter Tryd.func58, Tryd.ntmps58
          go_wp2_with fail
          refine HG.out.mono ?_
          rintro e w' ⟨rfl, rfl⟩
          go_wp2_with fail
          refine HL.out.mono ?_
          rintro e w' ⟨rfl, rfl⟩
          go_wp2_with fail
          refine HL.out.mono ?_
          rintro e w' ⟨rfl, rfl⟩
          go_wp2_with fail
          go_ret
          exact ⟨rfl, HFst.out.2, HFst.out.1⟩
  · obtain ⟨i, rfl⟩ : ∃ i : Nat, a = (i : Int) := ⟨a.toNat, by omega⟩
    obtain ⟨m, rfl⟩ : ∃ m : Nat, n = (m : Int) := ⟨n.toNat, by omega⟩
    have hil : i ≤ L.length := by omega
    have him : i + m ≤ L.length := by omega
    have hp : delP L i m = (0, L.take i ++ [] ++ L.drop (i + m)) := by unfold delP; rw [if_neg h1]; simp
    rw [hp]
    have hd2 : decide (L.length < i) = false := by simp [hil]
    have hd4 : decide ((L.length : Int) - (i : Int) < (m : Int)) = false := by simp; omega
    have okk := ok_del hr.ok (show i ≤ i + m by omega) him
    have hchg : ∀ w', Below w.heap.size w w' → PackRow w' p g cap cur L := fun w' hb => hr.chg (Chg.of_below (fun _ => False) hb) id id
    have HS1 := Lib.hid (seek_row hr hl hil)
    have HS2 := Lib.hid (fun w' (hb : Below w.heap.size w w') => seek_row (hchg w' hb) (hl.below hb) him)
    have HCh := Lib.hid (fun w' (hb : Below w.heap.size w w') => change_row (hchg w' hb) i (i + m) (by omega) him [] okk none 0 0 (Nat.le_refl _) rfl (.inl rfl) (-(m : Int)) (by simp; omega))
    have HFin := Lib.hid (show ∀ w' w'' , Below w.heap.size w w' → (∃ cap' cur', PackRow w'' p w'.heap.size cap' cur' (L.take i ++ [] ++ L.drop (i + m))) → Chg (fun k => k = p) w' w'' → (∃ F', PackF w'' p F' (L.take i ++ [] ++ L.drop (i + m)) ∧ Fresh w F F') ∧ Chg F w w'' from fun w' w'' hb ⟨cap', cur', hr'⟩ hc =>
      ⟨⟨fun k => k = p ∨ k = w'.heap.size, ⟨_, cap', cur', hr', fun k => Iff.rfl⟩, fun k hk => hk.imp (fun e => (hF k).2 (.inl e)) fun e => by have := hb.size; omega⟩,
        (Chg.of_below F hb).trans hc fun k hk _ => (hF k).2 (.inl hk)⟩)
    clear hr hF hl hp h1 HFst okk hchg
    generalize offL L i = k at *
    generalize offL L (i + m) = k' at *
    go_enter Tryd.func58, Tryd.ntmps58
    go_wp2_with fail
    refine HG.out.mono ?_
    rintro e w' ⟨rfl, rfl⟩
    go_wp2_with fail
    refine HL.out.mono ?_
    rintro e w' ⟨rfl, rfl⟩
    go_wp2_with fail
    refine HL.out.mono ?_
    rintro e w' ⟨rfl, rfl⟩
    go_wp2_with fail
    refine HS1.out.mono ?_
    rintro e w1 ⟨rfl, b1⟩
    have B1 := Lib.hid b1
    clear b1
    go_wp2_with fail
    refine (HS2.out _ B1.out).mono ?_
    rintro e w2 ⟨rfl, b2⟩
    have B2 := Lib.hid (B1.out.trans (b2.mono B1.out.size))
    clear b2
    go_wp2_with fail
    refine (HCh.out _ B2.out).mono ?_
    rintro e w3 ⟨rfl, hr3, c3⟩
    have HF3 := Lib.hid (HFin.out w2 w3 B2.out hr3 c3)
    clear hr3 c3
    go_wp2_with fail
    go_ret
    exact ⟨rfl, HF3.out.1, HF3.out.2⟩
section
variable {w : World} {p : Nat} {F : Nat → Prop} {L : List ByteArray}
theorem packLen (h : PackF w p F L) : Calls Tryd.prog 39 #[.pointer (some ⟨p, 0, none⟩)] w fun e w' => e = .returned (.int .i64 L.length) ∧ w = w' := by
  obtain ⟨g, cap, cur, hr, hF⟩ := h; exact plen_row hr
theorem packSize (h : PackF w p F L) : Calls Tryd.prog 50 #[.pointer (some ⟨p, 0, none⟩)] w fun e w' => e = .returned (.int .i64 (sizeP L)) ∧ w = w' := by
  obtain ⟨g, cap, cur, hr, hF⟩ := h; exact psize_row hr
theorem packBytes (h : PackF w p F L) : Calls Tryd.prog 52 #[.pointer (some ⟨p, 0, none⟩)] w fun e w' => e = .returned (.string (strOf (packL L))) ∧ w = w' := by
  obtain ⟨g, cap, cur, hr, hF⟩ := h; exact pbytes_row hr
theorem packGet (h : PackF w p F L) (hl : Laid w) (a : Int) (ha : -9223372036854775808 ≤ a ∧ a ≤ 9223372036854775807) : Calls Tryd.prog 62 #[.pointer (some ⟨p, 0, none⟩), .int .i64 a] w fun e w' => e = .returned (getV L a) ∧ Below w.heap.size w w' := by
  obtain ⟨g, cap, cur, hr, hF⟩ := h; exact get_row hr hl a ha
end
end Go.Proofs.YtfbhddllimfdlaaDoor

/- pack.All: the iterator. -/
namespace Go.Proofs.YtfbhddllimfdlaaDoor
set_option linter.unusedVariables false
set_option linter.unusedSimpArgs false
open Go.RowKit Go.Shelf
attribute [local go_sem] Oper.semAt_some
/-- The texts with their places. -/
def toldP (L : List ByteArray) : List (Nat × ByteArray) := (List.range L.length).map fun i => (i, L.getD i ByteArray.empty)
@[simp] theorem toldP_length (L : List ByteArray) : (toldP L).length = L.length := by simp [toldP]
theorem toldP_take {L : List ByteArray} {k : Nat} (h : k < L.length) : (toldP L).take (k + 1) = (toldP L).take k ++ [(k, L[k])] := by
  rw [List.take_succ_eq_append_getElem (by simpa using h)]
  simp [toldP, List.getD, h]
def encP (x : Nat × ByteArray) : Array Value := #[.int .i64 x.1, .string x.2]
/-- What a round of a loop over All keeps: what lies below N; the piece in block g; the heads that are made behind n1. -/
structure KeepP (N n1 g : Nat) (W W' : World) : Prop where
  below : Below N W W'
  size : W.heap.size ≤ W'.heap.size
  piece : ∀ (cs : Array Value) (fz : Nat × Nat), W.heap[g]? = some (.cells cs 5 fz) → W'.heap[g]? = some (.cells cs 5 fz)
  heads : ∀ (k : Nat) (cs : Array Value) (fz : Nat × Nat), n1 ≤ k → W.heap[k]? = some (.cells cs 70 fz) → W'.heap[k]? = some (.cells cs 70 fz)
theorem KeepP.trans {N n1 g : Nat} {A B C : World} (h : KeepP N n1 g A B) (k : KeepP N n1 g B C) : KeepP N n1 g A C :=
  ⟨h.below.trans k.below, Nat.le_trans h.size k.size, fun cs fz e => k.piece cs fz (h.piece cs fz e), fun i cs fz hi e => k.heads i cs fz hi (h.heads i cs fz hi e)⟩
theorem KeepP.putObj {N n1 g : Nat} (W : World) (l : Nat) (o o' : Obj) (hN : N ≤ l) (h : W.heap[l]? = some o) (ho : o.isCells = false) : KeepP N n1 g W (W.putObj l o') := by
  have hk : ∀ (k : Nat) (cs : Array Value) (E : TypeId) (fz : Nat × Nat), W.heap[k]? = some (.cells cs E fz) → (W.putObj l o').heap[k]? = some (.cells cs E fz) := fun k cs E fz hk => by
    by_cases e : k = l
    · subst e; rw [h] at hk; cases hk; cases ho
    · exact (World.putObj_heap_other e).trans hk
  exact ⟨(Below.refl N W).grown (grownBy_putObj' W l o') (by have := heap_lt h; omega) (fun k e => by cases e; omega), by simp, fun cs fz e => hk g cs _ fz e, fun k cs fz _ e => hk k cs _ fz e⟩
theorem KeepP.of_below {N n1 g : Nat} {W W' : World} (h : Below W.heap.size W W') (hN : N ≤ W.heap.size) : KeepP N n1 g W W' :=
  ⟨h.mono hN, h.size, fun cs fz e => by rw [h.block g (heap_lt e)]; exact e, fun k cs fz _ e => by rw [h.block k (heap_lt e)]; exact e⟩
theorem packAll (w : World) (p : Nat) : Calls Tryd.prog 69 #[.pointer (some ⟨p, 0, none⟩)] w fun e w' => e = .returned (.func (.func 99) #[] #[.pointer (some ⟨w.heap.size, 0, none⟩)]) ∧
    w' = w.alloc (.cells #[.pointer (some ⟨p, 0, none⟩)] 25) := by
  go_enter Tryd.func69, Tryd.ntmps69
  go_wp2_with fail
  go_ret
  exact ⟨rfl, rfl⟩
theorem grown_of' {W W' : World} (h : Below W.heap.size W W') : W.grownBy W' none := ⟨h.os, h.tape, h.output, h.size, fun k hk _ => h.block k hk⟩
theorem PackRow.keep {w w' : World} {p g cap : Nat} {cur : Array Value} {L : List ByteArray} {N n1 : Nat} (h : PackRow w p g cap cur L) (hk : KeepP N n1 g w w') (hp : n1 ≤ p) : PackRow w' p g cap cur L := by
  refine { h with head := hk.heads p _ _ hp h.head, row := ?_ }
  obtain ⟨fz, h1, h2⟩ := h.row
  exact ⟨fz, h1, hk.piece _ _ h2⟩
set_option maxHeartbeats 6400000 in
set_option maxRecDepth 100000 in
theorem packIter1 {w0 W : World} {N n1 p bp g cap l : Nat} {cur : Array Value} {L : List ByteArray} (hl : Laid w0) (hw0 : w0.heap.size = N) (hb0 : Below N w0 W) (hr : PackRow W p g cap cur L) (hbp : W.cell? ⟨bp, 0, none⟩ = some (.pointer (some ⟨p, 0, none⟩))) (hn1 : n1 ≤ W.heap.size) (hNn : N ≤ n1)
    (J Jx : List (Nat × ByteArray) → World → Prop) (hJ : AbidesFrom W.heap.size J) {m : Nat}
    (hY : ∀ pre x W1, J pre W1 → pre ++ [x] <+: toldP L → YieldAt Fence.wide m Tryd.prog l (encP x) W1 fun e W' => (e = .returned (.bool true) ∧ J (pre ++ [x]) W' ∧ KeepP N n1 g W1 W') ∨ (e = .returned (.bool false) ∧ Jx (pre ++ [x]) W'))
    (h0 : J [] W) : Calls Tryd.prog 99 #[.func (.yield l) #[] #[], .pointer (some ⟨bp, 0, none⟩)] W fun e W' => (∃ v, e = .returned v) ∧
      ((∃ xs, xs = toldP L ∧ J xs W') ∨ ∃ pre, pre <+: toldP L ∧ Jx pre W') := by
  have HJ := Lib.hid hJ
  have HY := Lib.hid hY
  have H0 := Lib.hid h0
  have HG := Lib.hid (gone_row hr.cell0)
  have c0 := hr.cell0
  have hr0 := hr
  clear hJ hY h0
  go_enter Tryd.func99, Tryd.ntmps99
  go_wp2_with fail
  refine HG.out.mono ?_
  rintro e w' ⟨rfl, rfl⟩
  go_wp2_with fail
  obtain ⟨w1, hw1⟩ : ∃ w1, w1 = W.alloc (.cells #[.slice (some ⟨g, 0, none⟩) (sizeP L) cap] 70) := ⟨_, rfl⟩
  rw [← hw1]
  have hb1 : Below W.heap.size W w1 := by rw [hw1]; exact (Below.refl _ _).alloc (Nat.le_refl _) _
  have hr1 : PackRow w1 W.heap.size g cap cur L := { hr0 with head := by rw [hw1]; exact heap_new _ _, row := by rw [hw1]; exact hr0.row.old _ }
  have hJ1 : J [] w1 := HJ.out [] W _ none H0.out (grown_of' hb1) (fun r e => by cases e)
  have HQ := Lib.hid (And.intro hr1 (And.intro hJ1 (And.intro (show Below N w0 w1 from hb0.trans (hb1.mono (by omega))) hb1.size)))
  have HLd := Lib.hid (show ∀ w', Below N w0 w' → Laid w' from fun w' hb => hl.below (by rw [hw0]; exact hb))
  have hmany := hr0.ok.many
  have hle := hr0.le
  have hsz := hr0.ok.size
  have hcm := hr0.capm
  unfold maxLen at hcm
  obtain ⟨qb, hqb⟩ : ∃ qb, W.heap.size = qb := ⟨_, rfl⟩
  rw [hqb] at HQ ⊢
  have HNq := Lib.hid (show N ≤ qb ∧ n1 ≤ qb by omega)
  have HJ2 := Lib.hid (show ∀ pre w2 w3, qb ≤ w2.heap.size → J pre w2 → Below w2.heap.size w2 w3 → J pre w3 from fun pre w2 w3 hq h hb => HJ.out pre w2 w3 none h (grown_of' hb) (fun r e => by cases e))
  clear hw1 hb1 hr1 hJ1 hr hr0 hb0 hl hw0 hbp c0 hn1 hNn HJ H0 HG hqb
  go_loopw [4, 5] (fun i a wr => ∃ k : Nat, k ≤ L.length ∧ i = .int .i64 k ∧ a = .int .i64 (offL L k) ∧ Hid (J ((toldP L).take k) wr ∧ PackRow wr qb g cap cur L ∧ Below N w0 wr ∧ qb ≤ wr.heap.size)) (fun i _ _ => L.length - (intOf i).toNat)
  case atStart => exact ⟨0, Nat.zero_le _, rfl, by rw [offL_zero]; rfl, Lib.hid ⟨HQ.out.2.1, HQ.out.1, HQ.out.2.2⟩⟩
  case round =>
    obtain ⟨k, hk, rfl, rfl, hI⟩ := hrel
    have HL := Lib.hid (plen_row hI.out.2.1)
    have hq0 := hI.out.2.1.cell0
    by_cases hlt : k < L.length
    · have hoff := offL_succ hlt
      have hofl := (offL_lt L (k + 1)).2
      have hei := entL_length L[k] (by have := hI.out.2.1.ok.small hlt; omega)
      have hkc : ¬ cap = offL L k := by omega
      have hkle : offL L k ≤ sizeP L := by omega
      have HRd := Lib.hid (read_row hI.out.2.1 (HLd.out wr hI.out.2.2.1) hlt)
      have HSt := Lib.hid (show ∀ w2, Below wr.heap.size wr w2 → J ((toldP L).take k) w2 ∧ PackRow w2 qb g cap cur L ∧ Below N w0 w2 ∧ qb ≤ w2.heap.size from fun w2 hb =>
        ⟨HJ2.out _ _ _ hI.out.2.2.2 hI.out.1 hb, hI.out.2.1.chg (Chg.of_below (fun _ => False) hb) id id, hI.out.2.2.1.trans (hb.mono (by have := HNq.out; have := hI.out.2.2.2; omega)), Nat.le_trans hI.out.2.2.2 hb.size⟩)
      have HYk := Lib.hid (fun W1 (hj : J ((toldP L).take k) W1) => HY.out ((toldP L).take k) (k, L[k]) W1 hj (by rw [← toldP_take hlt]; exact List.take_prefix _ _))
      have HNx := Lib.hid (fun W1 (h1 : PackRow W1 qb g cap cur L) (h2 : Below N w0 W1) => next_row h1 (HLd.out W1 h2) hlt)
      have HTk := Lib.hid (toldP_take hlt)
      obtain ⟨x, hx⟩ : ∃ x, L[k] = x := ⟨_, rfl⟩
      rw [hx] at HRd HYk HTk
      rw [← HTk.out] at HYk
      clear hx hoff hei HY
      go_wp2_with fail
      refine HL.out.mono ?_
      rintro e w' ⟨rfl, rfl⟩
      go_wp2_with fail
      refine HRd.out.mono ?_
      rintro e w2 ⟨rfl, b2⟩
      have HS2 := Lib.hid (HSt.out w2 b2)
      obtain ⟨fn, tmps, assign, body, hy, hR⟩ := HYk.out w2 HS2.out.1
      have HR := Lib.hid hR
      dsimp only [encP] at hy
      clear b2 hR HSt HRd hI HYk hq0
      go_upto_region 6 with (fail)
      refine (wpIn_wide (n := m + 1)).1 ?_
      gi_wp2
      refine HR.out.mono ?_
      rintro e w3 (⟨rfl, hJ3, hk3⟩ | ⟨rfl, hx3⟩)
      · have HS3 := Lib.hid (And.intro hJ3 (And.intro (HS2.out.2.1.keep hk3 HNq.out.2) (And.intro (HS2.out.2.2.1.trans hk3.below) (Nat.le_trans HS2.out.2.2.2 hk3.size))))
        have HN3 := Lib.hid (HNx.out w3 HS3.out.2.1 HS3.out.2.2.1)
        clear hJ3 hk3 HR hy
        gi_wp2
        go_wp2_with fail
        refine HN3.out.mono ?_
        rintro e w4 ⟨rfl, b4⟩
        have HS4 := Lib.hid (show J ((toldP L).take (k + 1)) w4 ∧ PackRow w4 qb g cap cur L ∧ Below N w0 w4 ∧ qb ≤ w4.heap.size from
          ⟨HJ2.out _ _ _ HS3.out.2.2.2 HS3.out.1 b4, HS3.out.2.1.chg (Chg.of_below (fun _ => False) b4) id id, HS3.out.2.2.1.trans (b4.mono (by have := HNq.out; have := HS3.out.2.2.2; omega)), Nat.le_trans HS3.out.2.2.2 b4.size⟩)
        clear b4
        go_wp2_with fail
        go_roundw
        case rel => exact ⟨k + 1, by omega, by go_num, rfl, HS4⟩
        case measure => simp [intOf]; omega
      · have HJ6 := Lib.hid hx3
        clear hx3 HR hy
        gi_wp2
        go_wp2_with fail
        refine bodyPost_ret (results_none rfl _ _ _) rfl ?_
        exact ⟨⟨_, rfl⟩, .inr ⟨_, List.take_prefix _ _, HJ6.out⟩⟩
    · have hkn : k = L.length := by omega
      subst hkn
      have HJ6 := Lib.hid hI.out.1
      rw [List.take_of_length_le (by simp)] at HJ6
      clear hI hq0
      go_wp2_with fail
      refine HL.out.mono ?_
      rintro e w' ⟨rfl, rfl⟩
      go_wp2_with fail
      go_end0
      exact ⟨⟨_, rfl⟩, .inl ⟨_, rfl, HJ6.out⟩⟩
end Go.Proofs.YtfbhddllimfdlaaDoor

/- pack.Find. -/
namespace Go.Proofs.YtfbhddllimfdlaaDoor
set_option linter.unusedVariables false
set_option linter.unusedSimpArgs false
open Go.RowKit Go.Shelf
attribute [local go_sem] Oper.semAt_some
theorem pre_ltP {α : Type} {pre l : List α} {x : α} (h : pre ++ [x] <+: l) : pre.length < l.length := by
  have := h.length_le
  simp at this
  omega
theorem prefix_lt {α : Type} {pre l : List α} {x : α} : pre.length < l.length → pre ++ [x] <+: l → True := fun _ _ => trivial
theorem packStops {w0 w : World} {N p bp g cap : Nat} {cur : Array Value} {L : List ByteArray} (hl : Laid w0) (hw0 : w0.heap.size = N) (hb0 : Below N w0 w) (hN : N ≤ w.heap.size) (hr : PackRow w p g cap cur L) (hbp : w.cell? ⟨bp, 0, none⟩ = some (.pointer (some ⟨p, 0, none⟩))) (m : Nat) :
    SeqStopsK Fence.wide m Tryd.prog 99 #[.pointer (some ⟨bp, 0, none⟩)] encP (KeepP N w.heap.size g) (fun xs => xs = toldP L) (fun pre => pre <+: toldP L) (toldP L).length w := by
  intro l J Jx W hW hJ _ hY h0
  refine callsIn_wide.2 (packIter1 hl hw0 (hb0.trans (hW.mono hN)) (hr.chg (Chg.of_below (fun _ => False) hW) id id) ((hW.cell (p := ⟨bp, 0, none⟩) (World.block_lt_of_cell? w _ hbp)).trans hbp) hW.size hN J Jx hJ (fun pre x W1 hj hp => hY pre x W1 hj (pre_ltP hp)) h0)
theorem grown_keepP {W W' : World} {row : Option Nat} (hg : W.grownBy W' row) (hr : ∀ r, row = some r → ∃ o : Obj, W.heap[r]? = some o ∧ o.isCells = false) {k : Nat} {cs : Array Value} {E : TypeId} {fz : Nat × Nat} (hk : W.heap[k]? = some (.cells cs E fz)) : W'.heap[k]? = some (.cells cs E fz) := by
  rw [hg.block k (heap_lt hk) (fun e => by
    obtain ⟨o, ho, hc⟩ := hr k e.symm
    rw [hk] at ho; cases ho; cases hc)]
  exact hk
theorem grown_belowP {W W' w : World} {row : Option Nat} {n₀ B : Nat} (hb : Below n₀ w W) (hg : W.grownBy W' row) (hr : ∀ r, row = some r → B ≤ r) (hn : n₀ ≤ B) (hs : n₀ ≤ W.heap.size) : Below n₀ w W' :=
  hb.trans ⟨hg.os, hg.tape, hg.output, hg.size, fun k hk => hg.block k (by omega) fun e => by have := hr k e.symm; omega⟩
theorem keepsFrom_ofP {W W' : World} {S : Nat → Prop} (B : Nat) (h : Chg S W W') (hs : ∀ k, S k → ∀ o, W.heap[k]? = some o → o.isCells = true) : KeepsFrom B W W' :=
  ⟨h.size, fun k o _ hk ho => h.keep hk fun hS => by rw [hs k hS o hk] at ho; cases ho⟩
/-- Is it the one that is sought? -/
def hitP (s : ByteArray) (a e : Int) (x : Nat × ByteArray) : Bool := decide (a ≤ (x.1 : Int)) && ((Int.tmod (wrap64 ((x.1 : Int) - a)) e == 0) && (x.2.toList == s.toList))
def findP (L : List ByteArray) (s : ByteArray) (a e : Int) : Int := if a < 0 ∨ e < 1 then -1 else match (toldP L).find? (hitP s a e) with
  | some x => x.1
  | none => -1
/-- Between two rounds. -/
structure FindI (w : World) (n0 bs : Nat) (s : ByteArray) (a e : Int) (pre : List (Nat × ByteArray)) (W : World) : Prop where
  below : Below n0 w W
  size : n0 ≤ W.heap.size
  b0 : W.heap[bs]? = some (.cells #[.string s] 9 (0, 0))
  b1 : W.heap[bs + 1]? = some (.cells #[.int .i64 a] 3 (0, 0))
  b2 : W.heap[bs + 1 + 1]? = some (.cells #[.int .i64 e] 3 (0, 0))
  b3 : W.heap[bs + 1 + 1 + 1]? = some (.cells #[.int .i64 0] 3 (0, 0))
  none : pre.find? (hitP s a e) = none
theorem FindI.own (w : World) (n0 bs : Nat) (s : ByteArray) (a e : Int) (B : Nat) (hB : n0 ≤ B) : OwnFrom B (FindI w n0 bs s a e) := by
  rintro pre W W' row h hg hr
  exact ⟨grown_belowP h.below hg (fun r e => (hr r e).1) hB h.size, Nat.le_trans h.size hg.size, grown_keepP hg (fun r e => (hr r e).2) h.b0, grown_keepP hg (fun r e => (hr r e).2) h.b1, grown_keepP hg (fun r e => (hr r e).2) h.b2, grown_keepP hg (fun r e => (hr r e).2) h.b3, h.none⟩
/-- Behind the hit. -/
def FindX (w : World) (n0 bs : Nat) (s : ByteArray) (a e : Int) (c : Code) (pre : List (Nat × ByteArray)) (W : World) : Prop :=
  c = .ret ∧ Below n0 w W ∧ n0 ≤ W.heap.size ∧ ∃ x, pre.find? (hitP s a e) = some x ∧ W.heap[bs + 1 + 1 + 1]? = some (.cells #[.int .i64 (x.1 : Nat)] 3 (0, 0))
theorem FindX.own (w : World) (n0 bs : Nat) (s : ByteArray) (a e : Int) (B : Nat) (hB : n0 ≤ B) (c : Code) : OwnFrom B (FindX w n0 bs s a e c) := by
  rintro pre W W' row ⟨h1, h2, h3, x, h4, h5⟩ hg hr
  exact ⟨h1, grown_belowP h2 hg (fun r e => (hr r e).1) hB h3, Nat.le_trans h3 hg.size, x, h4, grown_keepP hg (fun r e => (hr r e).2) h5⟩
set_option maxHeartbeats 3200000 in
set_option maxRecDepth 100000 in
theorem find_row {w : World} {p g cap : Nat} {cur : Array Value} {L : List ByteArray} (h : PackRow w p g cap cur L) (hl : Laid w) (s : ByteArray) (a e : Int) (ha : -9223372036854775808 ≤ a ∧ a ≤ 9223372036854775807) (he : -9223372036854775808 ≤ e ∧ e ≤ 9223372036854775807) :
    Calls Tryd.prog 60 #[.pointer (some ⟨p, 0, none⟩), .string s, .int .i64 a, .int .i64 e] w fun en w' => en = .returned (.int .i64 (findP L s a e)) ∧ Below w.heap.size w w' := by
  have HA := Lib.hid (fun w => packAll w p)
  by_cases h1 : a < 0 ∨ e < 1
  · have hv : findP L s a e = -1 := by unfold findP; rw [if_pos h1]
    rw [hv]
    have hb : Below w.heap.size w ((((w.alloc (Obj.cells #[Value.string s] 9)).alloc (Obj.cells #[Value.int IntKind.i64 a] 3)).alloc (Obj.cells #[Value.int IntKind.i64 e] 3)).alloc (Obj.cells #[Value.int IntKind.i64 (-1)] 3)) :=
      ((((Below.refl w.heap.size w).alloc (Nat.le_refl _) _).alloc (by simp) _).alloc (by simp; omega) _).alloc (by simp; omega) _
    have hc := heap_new (((w.alloc (Obj.cells #[Value.string s] 9)).alloc (Obj.cells #[Value.int IntKind.i64 a] 3)).alloc (Obj.cells #[Value.int IntKind.i64 e] 3)) (Obj.cells #[Value.int IntKind.i64 (-1)] 3)
    simp only [World.size_alloc] at hc
    have HB := Lib.hid (And.intro hb (cell_in hc (i := 0) (v := .int .i64 (-1)) rfl))
    clear hb hc hv h hl HA
    by_cases h0 : a < 0
    · have hd : decide (a < 0) = true := by simp; omega
      clear h1
      go_enter Tryd.func60, Tryd.ntmps60
      go_wp2_with fail
      exact bodyPost_ret (v := .int .i64 (-1)) (by have h := HB.out.2; simp [results, Tryd.results60, go_sem, h]) rfl ⟨rfl, HB.out.1⟩
    · have hd : decide (a < 0) = false := by simp; omega
      have hd2 : decide (e < 1) = true := by simp; omega
      clear h1
      go_enter Tryd.func60, Tryd.ntmps60
      go_wp2_with fail
      exact bodyPost_ret (v := .int .i64 (-1)) (by have h := HB.out.2; simp [results, Tryd.results60, go_sem, h]) rfl ⟨rfl, HB.out.1⟩
  · have hd1 : decide (a < 0) = false := by simp; omega
    have hd2 : decide (e < 1) = false := by simp; omega
    obtain ⟨w4, hw4⟩ : ∃ w4, w4 = (((w.alloc (Obj.cells #[Value.string s] 9)).alloc (Obj.cells #[Value.int IntKind.i64 a] 3)).alloc (Obj.cells #[Value.int IntKind.i64 e] 3)).alloc (Obj.cells #[Value.int IntKind.i64 0] 3) := ⟨_, rfl⟩
    have hs4 : w4.heap.size = w.heap.size + 4 := by rw [hw4]; simp
    have hb4 : Below w.heap.size w w4 := by rw [hw4]; exact ((((Below.refl w.heap.size w).alloc (Nat.le_refl _) _).alloc (by simp) _).alloc (by simp; omega) _).alloc (by simp; omega) _
    obtain ⟨w5, hw5⟩ : ∃ w5, w5 = w4.alloc (.cells #[.pointer (some ⟨p, 0, none⟩)] 25) := ⟨_, rfl⟩
    have hs5 : w5.heap.size = w.heap.size + 5 := by rw [hw5]; simp [hs4]
    have hb5 : Below w.heap.size w w5 := by rw [hw5]; exact hb4.alloc (by omega) _
    have hbp : w5.cell? ⟨w4.heap.size, 0, none⟩ = some (.pointer (some ⟨p, 0, none⟩)) := by rw [hw5]; exact cell_in (heap_new _ _) rfl
    have hI0 : FindI w w.heap.size w.heap.size s a e [] w5 := by
      have e1 := heap_new w (Obj.cells #[Value.string s] 9)
      have e2 := heap_new (w.alloc (Obj.cells #[Value.string s] 9)) (Obj.cells #[Value.int IntKind.i64 a] 3)
      have e3 := heap_new ((w.alloc (Obj.cells #[Value.string s] 9)).alloc (Obj.cells #[Value.int IntKind.i64 a] 3)) (Obj.cells #[Value.int IntKind.i64 e] 3)
      have e4 := heap_new (((w.alloc (Obj.cells #[Value.string s] 9)).alloc (Obj.cells #[Value.int IntKind.i64 a] 3)).alloc (Obj.cells #[Value.int IntKind.i64 e] 3)) (Obj.cells #[Value.int IntKind.i64 0] 3)
      simp only [World.size_alloc] at e2 e3 e4
      refine ⟨hb5, by omega, ?_, ?_, ?_, ?_, rfl⟩ <;> rw [hw5, hw4]
      · exact heap_old (heap_old (heap_old (heap_old e1 _) _) _) _
      · exact heap_old (heap_old (heap_old e2 _) _) _
      · exact heap_old (heap_old e3 _) _
      · exact heap_old e4 _
    have HSeq := Lib.hid (packStops hl rfl hb5 (by omega) (h.chg (Chg.of_below (fun _ => False) hb5) id id) hbp 2)
    have HI0 := Lib.hid hI0
    have HW4 := Lib.hid hw4
    have HW5 := Lib.hid (And.intro hw5 hs5)
    have HMany := Lib.hid h.ok.many
    have hfp : findP L s a e = match (toldP L).find? (hitP s a e) with | some x => (x.1 : Int) | none => -1 := by unfold findP; rw [if_neg h1]
    obtain ⟨rv, hrv⟩ : ∃ rv, findP L s a e = rv := ⟨_, rfl⟩
    rw [hrv] at hfp ⊢
    have HV := Lib.hid hfp
    clear hfp hrv
    have ha0 : 0 ≤ a := by omega
    have he1 : 1 ≤ e := by omega
    clear hw4 hw5 hs4 hb4 hs5 hb5 hbp hI0 h hl h1
    obtain ⟨tm, htm⟩ : ∃ tm : Array Value, tm = #[.pointer (some ⟨p, 0, none⟩), .string s, .int .i64 a, .int .i64 e, undef, .pointer (some ⟨w.heap.size, 0, none⟩), .pointer (some ⟨w.heap.size + 1, 0, none⟩), .pointer (some ⟨w.heap.size + 1 + 1, 0, none⟩), .pointer (some ⟨w.heap.size + 1 + 1 + 1, 0, none⟩), undef, undef, .int .i64 a, .bool false, .bool false, .int .i64 e, .bool false, .bool false, .pointer (some ⟨p, 0, none⟩), .func (.func 99) #[] #[.pointer (some ⟨w4.heap.size, 0, none⟩)], undef, undef, undef, undef, undef, undef, undef, undef, undef, undef, undef, undef, undef, undef, undef, undef, undef, undef, undef] := ⟨_, rfl⟩
    have HTm := Lib.hid htm
    clear htm
    refine callsIn_wide.1 (callsIn_of_wp_marks (n := 3) Tryd.func60 rfl trivial ?_ rfl)
    refine wpIn_wide.2 ?_
    simp only [Tryd.ntmps60, List.size_toArray, List.length_cons, List.length_nil, Nat.reduceAdd, Nat.reduceSub, Array.replicate_succ, Array.replicate_zero, List.push_toArray, List.append_toArray, List.nil_append, List.cons_append]
    go_wp2_with fail
    rw [← HW4.out]
    refine (HA.out w4).mono ?_
    rintro en w' ⟨rfl, hw'⟩
    obtain rfl : w' = w5 := hw'.trans HW5.out.1.symm
    clear hw'
    go_wp2_with fail
    refine (wpIn_wide (n := 3)).1 ?_
    refine wpIn_rangeFunc_ownH (F := Fence.wide) rfl (by omega) (gf := 99) (lb := #[.pointer (some ⟨w4.heap.size, 0, none⟩)]) rfl trivial (fun args w => rfl) HSeq.out KeepP.trans (fun W l o o' hle hl ho _ => KeepP.putObj W l o o' (by have := HW5.out.2; omega) hl ho) (Below.refl _ _) (fun _ => rfl)
      (FindI w w.heap.size w.heap.size s a e) (FindX w w.heap.size w.heap.size s a e) (FindI.own _ _ _ _ _ _ _ (by have := HW5.out.2; omega)) (fun c => FindX.own _ _ _ _ _ _ _ (by have := HW5.out.2; omega) c) HI0.out (fun x a' _ => a' = { tmps := (((tm.setIfInBounds 19 (.int .i64 x.1)).setIfInBounds 20 (.string x.2)).setIfInBounds 9 (.int .i64 x.1)).setIfInBounds 10 (.string x.2), defers := [] }) (fun x a' => fun _ _ _ _ h _ _ => h) ?assign ?body ?done ?stop
    case assign =>
      intro l pre x W K hI hK
      have HI := Lib.hid hI
      clear hI
      unfold encP
      gi_wp2
      refine hK _ _ (KeepsFrom.refl _ _) (KeepP.of_below (Below.refl _ _) HI.out.size) HI.out ?_
      rw [HTm.out]; rfl
    case body =>
      rintro l pre x a' W _ _ hI rfl hlen
      have HI := Lib.hid hI
      have x0 := cell_in hI.b0 (i := 0) rfl
      have x1 := cell_in hI.b1 (i := 0) rfl
      have x2 := cell_in hI.b2 (i := 0) rfl
      have x3 := cell_in hI.b3 (i := 0) rfl
      have f3 := frozen_in hI.b3 0
      clear hI
      rw [HTm.out]
      simp only [List.setIfInBounds_toArray, List.set_cons_succ, List.set_cons_zero]
      have HK := Lib.hid (show hitP s a e x = false → ownPostG w'.heap.size (KeepP w.heap.size w'.heap.size g) (FindI w w.heap.size w.heap.size s a e) (FindX w w.heap.size w.heap.size s a e) (pre ++ [x]) W .normal { tmps := #[], defers := [] } W from fun hx =>
        ⟨KeepsFrom.refl _ _, KeepP.of_below (Below.refl _ _) HI.out.size, { HI.out with none := by rw [List.find?_append, HI.out.none]; simp [hx] }⟩)
      have HX := Lib.hid (show hitP s a e x = true → ownPostG w'.heap.size (KeepP w.heap.size w'.heap.size g) (FindI w w.heap.size w.heap.size s a e) (FindX w w.heap.size w.heap.size s a e) (pre ++ [x]) W .ret { tmps := #[], defers := [] } (W.setCell ⟨w.heap.size + 1 + 1 + 1, 0, none⟩ (.int .i64 x.1)) from fun hx => by
        have hc : Chg (fun k => k = w.heap.size + 1 + 1 + 1) W (W.setCell ⟨w.heap.size + 1 + 1 + 1, 0, none⟩ (.int .i64 x.1)) := Chg.setCell _ _ _ _ rfl
        exact ⟨keepsFrom_ofP _ hc fun k hk o ho => by subst hk; rw [HI.out.b3] at ho; cases ho; rfl, rfl, belowChg HI.out.below hc HI.out.size fun k hk _ => by omega, Nat.le_trans HI.out.size hc.size, x, by rw [List.find?_append, HI.out.none]; simp [hx], setCell_head HI.out.b3 0 _⟩)
      gi_wp2
      all_goals first
        | exact HX.out (by simp_all [hitP])
        | (refine HK.out ?_
           unfold hitP
           rw [Bool.and_eq_false_iff, Bool.and_eq_false_iff]
           first
           | exact .inl (decide_eq_false (by omega))
           | exact .inr (.inl (by rw [beq_eq_false_iff_ne]; assumption))
           | exact .inr (.inr (by assumption)))
    case done =>
      rintro D xs W hD rfl hI hK
      have HI := Lib.hid hI
      have x3 := cell_in hI.b3 (i := 0) rfl
      have f3 := frozen_in hI.b3 0
      have hne : D ≠ w.heap.size + 1 + 1 + 1 := fun e => by subst e; rw [hI.b3] at hK; cases hK
      have h3 := setCell_head hI.b3 0 (.int .i64 (-1))
      have hK' : (W.setCell ⟨w.heap.size + 1 + 1 + 1, 0, none⟩ (.int .i64 (-1))).heap[D]? = some (.deferred (some [])) := by rw [Below.heap_setCell _ _ _ _ hne]; exact hK
      have hc : Chg (fun k => k = w.heap.size + 1 + 1 + 1) W (W.setCell ⟨w.heap.size + 1 + 1 + 1, 0, none⟩ (.int .i64 (-1))) := Chg.setCell _ _ _ _ rfl
      have hg := grownBy_putObj' (W.setCell ⟨w.heap.size + 1 + 1 + 1, 0, none⟩ (.int .i64 (-1))) D (.deferred none)
      have hB : Below w.heap.size w ((W.setCell ⟨w.heap.size + 1 + 1 + 1, 0, none⟩ (.int .i64 (-1))).putObj D (.deferred none)) :=
        grown_belowP (belowChg hI.below hc hI.size fun k hk _ => by omega) hg (fun r e => by cases e; exact hD) (by have := HW5.out.2; omega) (Nat.le_trans hI.size hc.size)
      have hcell : ((W.setCell ⟨w.heap.size + 1 + 1 + 1, 0, none⟩ (.int .i64 (-1))).putObj D (.deferred none)).cell? ⟨w.heap.size + 1 + 1 + 1, 0, none⟩ = some (.int .i64 (-1)) :=
        cell_in (grown_keepP hg (fun r e => by cases e; exact ⟨_, hK', rfl⟩) h3) rfl
      have HB := Lib.hid (And.intro hB (And.intro hcell hK'))
      obtain rfl : rv = -1 := by rw [HV.out, hI.none]
      clear hI hK hK' hc hg hB hcell h3 hne
      go_wp2_with fail
      refine ⟨by simp, .inl ⟨_, _, rfl, run_takeDeferred HB.out.2.2, ?_⟩⟩
      refine ⟨.int .i64 (-1), ?_, rfl, HB.out.1⟩
      have h := HB.out.2.1
      simp [results, Tryd.results60, go_sem, h]
    case stop =>
      rintro D c pre W hD hpre ⟨rfl, h2, h3, x, h4, h5⟩ hK
      have hg := grownBy_putObj' W D (.deferred none)
      have hB : Below w.heap.size w (W.putObj D (.deferred none)) := grown_belowP h2 hg (fun r e => by cases e; exact hD) (by have := HW5.out.2; omega) h3
      have hcell : (W.putObj D (.deferred none)).cell? ⟨w.heap.size + 1 + 1 + 1, 0, none⟩ = some (.int .i64 (x.1 : Nat)) :=
        cell_in (grown_keepP hg (fun r e => by cases e; exact ⟨_, hK, rfl⟩) h5) rfl
      have HB := Lib.hid (And.intro hB (And.intro hcell hK))
      obtain rfl : rv = (x.1 : Int) := by
        obtain ⟨t, ht⟩ := hpre
        rw [HV.out, ← ht, List.find?_append, h4]
        rfl
      clear hK hg hB hcell h2 h3 h4 h5
      gi_wp2
      refine ⟨by simp, .inl ⟨_, _, rfl, run_takeDeferred HB.out.2.2, ?_⟩⟩
      refine ⟨.int .i64 (x.1 : Nat), ?_, rfl, HB.out.1⟩
      have h := HB.out.2.1
      simp [results, Tryd.results60, go_sem, h]
end Go.Proofs.YtfbhddllimfdlaaDoor

/- The laws' helpers on texts: Beyond, TextsSize, SameTexts; opening a slice of texts. -/
namespace Go.Proofs.YtfbhddllimfdlaaDoor
set_option linter.unusedVariables false
set_option linter.unusedSimpArgs false
open Go.RowKit
set_option maxHeartbeats 800000 in
theorem beyond_any (w : World) (a : Option Addr) (len cap : Nat) (zs : List Nat) (hlen : zs.length = len) (ha : ArgRow w a len cap fun i => .int .i64 (zs.getD i 0 : Nat)) (hz : ∀ x ∈ zs, x ≤ 140737488355328) (hm : len ≤ 1000000000) :
    Calls Tryd.prog 10 #[.slice a len cap] w fun e w' => e = .returned (.bool (decide (1048576 < zs.sum))) ∧ w = w' := by
  have HA := Lib.hid ha
  have HL := Lib.hid hlen
  have HZ := Lib.hid hz
  have hlc := ha.1
  clear ha hlen hz
  go_enter Tryd.func10, Tryd.ntmps10
  go_wp2_with fail
  go_loop [3, 4] (fun n i => ∃ k : Nat, k ≤ len ∧ i = .int .i64 k ∧ n = .int .i64 ((zs.take k).sum : Nat) ∧ (zs.take k).sum ≤ 1048576) (fun _ i => len - (intOf i).toNat)
  case atStart => exact ⟨0, Nat.zero_le _, rfl, rfl, by simp⟩
  case round =>
    obtain ⟨k, hk, rfl, rfl, hI⟩ := hrel
    by_cases hlt : k < len
    · obtain ⟨b, o, hb, hc⟩ := HA.out.2.resolve_left (by omega)
      subst hb
      have hcell : w.cell? ⟨b, o + k, none⟩ = some (.int .i64 (zs.getD k 0 : Nat)) := hc k hlt
      have hkl : k < zs.length := by rw [HL.out]; exact hlt
      have htk : (zs.take (k + 1)).sum = (zs.take k).sum + zs.getD k 0 := by rw [List.take_succ_eq_append_getElem hkl, List.sum_append, List.sum_cons, List.sum_nil]; simp [List.getD, hkl]
      have hzk := HZ.out (zs.getD k 0) (by simp [List.getD, hkl])
      have htot : (zs.take (k + 1)).sum ≤ zs.sum := by
        have := congrArg List.sum (List.take_append_drop (k + 1) zs)
        rw [List.sum_append] at this
        omega
      have HT := Lib.hid (And.intro htk htot)
      clear htk htot hc
      generalize zs.getD k 0 = y at *
      generalize (zs.take k).sum = q at *
      by_cases hgt : 1048576 < q + y
      · have e1 : decide ((1048576 : Int) < (q : Int) + (y : Int)) = true := by simp; omega
        have hr : decide (1048576 < zs.sum) = true := by have := HT.out; simp; omega
        have HR := Lib.hid hr
        clear hr
        go_wp2_with fail
        go_ret
        exact ⟨ret1 (by rw [HR.out]; rfl), rfl⟩
      · have e1 : decide ((1048576 : Int) < (q : Int) + (y : Int)) = false := by simp; omega
        go_wp2_with fail
        go_round
        case rel => exact ⟨k + 1, by omega, by go_num, by rw [HT.out.1]; go_num, by rw [HT.out.1]; omega⟩
        case measure => simp [intOf]; omega
    · have : k = len := by omega
      subst this
      have hr : decide (1048576 < zs.sum) = false := by rw [← HL.out, List.take_length] at hI; simp; omega
      have HR := Lib.hid hr
      clear hr
      go_wp2_with fail
      go_ret
      exact ⟨ret1 (by rw [HR.out]; rfl), rfl⟩

theorem ArgRow.belowT {w w' : World} {a : Option Addr} {n c : Nat} {f : Nat → Value} (h : ArgRow w a n c f) (hb : Below w.heap.size w w') : ArgRow w' a n c f := by
  refine ⟨h.1, h.2.imp id ?_⟩
  rintro ⟨b, o, e, hc⟩
  exact ⟨b, o, e, fun i hi => by rw [hb.cell (World.block_lt_of_cell? w _ (hc i hi))]; exact hc i hi⟩
/-- How much texts have in them. -/
def totalT (zs : List ByteArray) : Nat := zs.length + (zs.map ByteArray.size).sum
theorem total_take (zs : List ByteArray) (k : Nat) : ((zs.take k).map ByteArray.size).sum ≤ (zs.map ByteArray.size).sum := by
  have := congrArg (fun l => (l.map ByteArray.size).sum) (List.take_append_drop k zs)
  simp only [List.map_append, List.sum_append] at this
  omega
theorem total_mem {zs : List ByteArray} {s : ByteArray} (h : s ∈ zs) : s.size + zs.length ≤ totalT zs := by
  unfold totalT
  have : s.size ≤ (zs.map ByteArray.size).sum := by
    induction zs with
    | nil => cases h
    | cons z zs ih =>
      simp only [List.map_cons, List.sum_cons]
      rcases List.mem_cons.1 h with rfl | h
      · omega
      · have := ih h; omega
  omega
set_option maxHeartbeats 800000 in
theorem textsSize_any (w : World) (a : Option Addr) (len cap : Nat) (zs : List ByteArray) (hlen : zs.length = len) (ha : ArgRow w a len cap fun i => .string (zs.getD i ByteArray.empty)) (ht : totalT zs ≤ 1048576) :
    Calls Tryd.prog 16 #[.slice a len cap] w fun e w' => e = .returned (.int .i64 (totalT zs)) ∧ w = w' := by
  have HA := Lib.hid ha
  have HL := Lib.hid hlen
  have hlc := ha.1
  have HT := Lib.hid (show ∀ k, len + ((zs.take k).map ByteArray.size).sum ≤ 1048576 from fun k => by have := total_take zs k; unfold totalT at ht; omega)
  have hln : len ≤ 1048576 := by unfold totalT at ht; omega
  have HF := Lib.hid (show totalT zs = len + ((zs.take len).map ByteArray.size).sum by unfold totalT; rw [List.take_of_length_le (by omega), hlen])
  clear ha hlen ht
  go_enter Tryd.func16, Tryd.ntmps16
  go_wp2_with fail
  go_loop [3, 4] (fun n i => ∃ k : Nat, k ≤ len ∧ i = .int .i64 k ∧ n = .int .i64 ((len + ((zs.take k).map ByteArray.size).sum : Nat) : Int)) (fun _ i => len - (intOf i).toNat)
  case atStart => exact ⟨0, Nat.zero_le _, rfl, by simp⟩
  case round =>
    obtain ⟨k, hk, rfl, rfl⟩ := hrel
    have hT := HT.out k
    by_cases hlt : k < len
    · obtain ⟨b, o, hb, hc⟩ := HA.out.2.resolve_left (by omega)
      subst hb
      have hcell : w.cell? ⟨b, o + k, none⟩ = some (.string (zs.getD k ByteArray.empty)) := hc k hlt
      have hkl : k < zs.length := by rw [HL.out]; exact hlt
      have HN := Lib.hid (show len + ((zs.take (k + 1)).map ByteArray.size).sum = len + ((zs.take k).map ByteArray.size).sum + (zs.getD k ByteArray.empty).size by
        have e : zs.getD k ByteArray.empty = zs[k] := by simp [List.getD, hkl]
        rw [List.take_succ_eq_append_getElem hkl, List.map_append, List.sum_append, List.map_cons, List.map_nil, List.sum_cons, List.sum_nil, e]; omega)
      have hT1 := HT.out (k + 1)
      rw [HN.out] at hT1
      clear hc
      generalize zs.getD k ByteArray.empty = y at *
      generalize hq : len + ((zs.take k).map ByteArray.size).sum = q at *
      have hd : decide ((q : Int) ≤ 1048576) = true := by simp; omega
      clear hq
      go_wp2_with fail
      go_round
      case rel => exact ⟨k + 1, by omega, by go_num, by rw [HN.out]; go_num⟩
      case measure => simp [intOf]; omega
    · obtain rfl : k = len := by omega
      generalize hq : k + ((zs.take k).map ByteArray.size).sum = q at *
      go_wp2_with fail
      go_ret
      exact ⟨ret1 (by rw [HF.out, ← hq]; rfl), rfl⟩
set_option maxHeartbeats 1600000 in
set_option maxRecDepth 100000 in
theorem sameTexts_any (w : World) (a b : Option Addr) (n m ca cb : Nat) (xs ys : List ByteArray) (hn : xs.length = n) (hm : ys.length = m) (ha : ArgRow w a n ca fun i => .string (xs.getD i ByteArray.empty)) (hb : ArgRow w b m cb fun i => .string (ys.getD i ByteArray.empty)) (hs : n ≤ 1000000000 ∧ m ≤ 1000000000) :
    Calls Tryd.prog 18 #[.slice a n ca, .slice b m cb] w fun e w' => e = .returned (.bool (decide (xs = ys))) ∧ ∃ k, w' = w.drewN k := by
  have HA := Lib.hid ha
  have HB := Lib.hid hb
  have hac := ha.1
  have hbc := hb.1
  clear ha hb
  by_cases hnm : n = m
  · subst hnm
    have HL := Lib.hid (And.intro hn hm)
    have hne : ((n : Int) != (n : Int)) = false := by simp
    obtain ⟨r, hr⟩ : ∃ r, decide (xs = ys) = r := ⟨_, rfl⟩
    rw [hr]
    have HR := Lib.hid hr
    clear hn hm hr
    go_enter Tryd.func18, Tryd.ntmps18
    go_wp2_with fail
    go_loopw [5] (fun i wr => ∃ k : Nat, k ≤ n ∧ i = .int .i64 k ∧ (∃ d, wr = w.drewN d) ∧ Hid (xs.take k = ys.take k)) (fun i _ => n - (intOf i).toNat)
    case atStart => exact ⟨0, Nat.zero_le _, rfl, ⟨0, rfl⟩, Lib.hid (by simp)⟩
    case round =>
      obtain ⟨k, hk, rfl, ⟨d, rfl⟩, hI⟩ := hrel
      by_cases hlt : k < n
      · obtain ⟨ab, ao, rfl, hca⟩ := HA.out.2.resolve_left (by omega)
        obtain ⟨bb, bo, rfl, hcb⟩ := HB.out.2.resolve_left (by omega)
        have c1 : (w.drewN d).cell? ⟨ab, ao + k, none⟩ = some (.string (xs.getD k ByteArray.empty)) := hca k hlt
        have c2 : (w.drewN d).cell? ⟨bb, bo + k, none⟩ = some (.string (ys.getD k ByteArray.empty)) := hcb k hlt
        have hkx : k < xs.length := by rw [HL.out.1]; exact hlt
        have hky : k < ys.length := by rw [HL.out.2]; exact hlt
        have HNx := Lib.hid (show xs.getD k ByteArray.empty = ys.getD k ByteArray.empty → xs.take (k + 1) = ys.take (k + 1) from fun h => by
          rw [List.take_succ_eq_append_getElem hkx, List.take_succ_eq_append_getElem hky, hI.out]
          simp only [List.getD, List.getElem?_eq_getElem hkx, List.getElem?_eq_getElem hky, Option.getD_some] at h
          rw [h])
        have HNo := Lib.hid (show xs.getD k ByteArray.empty ≠ ys.getD k ByteArray.empty → r = false from fun h => by
          rw [← HR.out]; exact decide_eq_false (fun e => h (by rw [e])))
        obtain ⟨X1, f, hX1, hf, hF⟩ := classOf (fun x => x.cell? ⟨ab, ao + k, none⟩ = some (.string (xs.getD k ByteArray.empty)) ∧ x.cell? ⟨bb, bo + k, none⟩ = some (.string (ys.getD k ByteArray.empty))) ⟨c1, c2⟩
        have HF := Lib.hid (hF (w.drewN d).drew ⟨c1, c2⟩)
        generalize xs.getD k ByteArray.empty = x at *
        generalize ys.getD k ByteArray.empty = y at *
        have hf1 := fun x => (hf x).1
        have hf2 := fun x => (hf x).2
        clear hF hf hca hcb c1 c2 hI
        by_cases hxy : x = y
        · have hq : (x.toList == y.toList) = true := by rw [hxy]; exact beq_self_eq_true _
          have HXY := Lib.hid (HNx.out hxy)
          clear hxy
          go_wp2_with fail
          refine wp_region_text ⟨[], [], 9⟩ (fun w' => ∃ x : X1, w' = f x) (by kernel_rfl) (by kernel_rfl) HF.out ?_
          refine wpC_seg false (HF.out) 9 0 _ _ (by rfl) (by rfl) ?_
          simp only [List.take_succ_cons, List.take_zero, List.drop_succ_cons, List.drop_zero, Bool.false_eq_true, if_false, Nat.zero_add, Nat.reduceAdd]
          repeat (go_big_quiet_step (fail))
          refine wpQuiet_nil ?_
          refine wpC_nil ?_
          clear hf1 hf2 hX1 HF
          go_wp2_with fail
          go_roundw
          case rel => exact ⟨k + 1, by omega, by go_num, ⟨d + 1, rfl⟩, HXY⟩
          case measure => simp [intOf]; omega
        · have hq : (x.toList == y.toList) = false := by
            rw [beq_eq_false_iff_ne, ne_eq, ByteArray.toList_eq, ByteArray.toList_eq]
            exact fun e => hxy (ByteArray.ext (Array.toList_inj.1 e))
          have HRf := Lib.hid (HNo.out hxy)
          clear hxy
          go_wp2_with fail
          refine wp_region_text ⟨[], [], 9⟩ (fun w' => ∃ x : X1, w' = f x) (by kernel_rfl) (by kernel_rfl) HF.out ?_
          refine wpC_seg false (HF.out) 9 0 _ _ (by rfl) (by rfl) ?_
          simp only [List.take_succ_cons, List.take_zero, List.drop_succ_cons, List.drop_zero, Bool.false_eq_true, if_false, Nat.zero_add, Nat.reduceAdd]
          repeat (go_big_quiet_step (fail))
          refine wpQuiet_nil ?_
          refine wpC_nil ?_
          clear hf1 hf2 hX1 HF
          go_wp2_with fail
          go_ret
          exact ⟨ret1 (by rw [HRf.out]; rfl), d + 1, rfl⟩
      · obtain rfl : k = n := by omega
        have HRt := Lib.hid (show r = true by
          have h := hI.out
          rw [List.take_of_length_le (by have := HL.out.1; omega), List.take_of_length_le (by have := HL.out.2; omega)] at h
          rw [← HR.out]; exact decide_eq_true h)
        clear hI
        go_wp2_with fail
        go_ret
        exact ⟨ret1 (by rw [HRt.out]; rfl), d, rfl⟩
  · have hne : ((n : Int) != (m : Int)) = true := by simp only [bne_iff_ne, ne_eq]; omega
    have hr : decide (xs = ys) = false := decide_eq_false (fun e => hnm (by rw [← hn, ← hm, e]))
    rw [hr]
    go_enter Tryd.func18, Tryd.ntmps18
    go_wp2_with fail
    go_ret
    exact ⟨rfl, 0, rfl⟩
end Go.Proofs.YtfbhddllimfdlaaDoor

/- The laws of the layer pack: filled, may, alive. -/
-- SOFT
namespace Go.Proofs.YtfbhddllimfdlaaDoor
set_option linter.unusedVariables false
set_option linter.unusedSimpArgs false
open Go.RowKit
theorem packFind {w : World} {p : Nat} {F : Nat → Prop} {L : List ByteArray} (h : PackF w p F L) (hl : Laid w) (s : ByteArray) (a e : Int) (ha : -9223372036854775808 ≤ a ∧ a ≤ 9223372036854775807) (he : -9223372036854775808 ≤ e ∧ e ≤ 9223372036854775807) :
    Calls Tryd.prog 60 #[.pointer (some ⟨p, 0, none⟩), .string s, .int .i64 a, .int .i64 e] w fun en w' => en = .returned (.int .i64 (findP L s a e)) ∧ Below w.heap.size w w' := by
  obtain ⟨g, cap, cur, hr, hF⟩ := h; exact find_row hr hl s a e ha he
set_option maxHeartbeats 800000 in
set_option maxRecDepth 100000 in
theorem parse_short (s : ByteArray) (hs : s.size ≤ 8) (w : World) : Calls Tryd.prog 11 #[.string s] w fun e w' => e = .returned (.tuple #[.pointer none, .int .i64 4]) ∧ w = w' := by
  have hd : decide ((s.size : Int) ≤ 8) = true := by simp; omega
  go_enter Tryd.func11, Tryd.ntmps11
  go_wp2_with fail
  go_ret2
  exact ⟨rfl, rfl⟩
theorem body_le : ∀ (L : List ByteArray), (∀ s ∈ L, s.size ≤ 65536) → (bodyL L).length ≤ 14 * totalT L
  | [], _ => by simp [bodyL]
  | s :: L, h => by
    have h1 := body_le L fun x hx => h x (by simp [hx])
    have h2 := entL_length s (by have := h s (by simp); omega)
    rw [bodyL_cons, List.length_append]
    unfold totalT at *
    simp only [List.length_cons, List.map_cons, List.sum_cons]
    omega
theorem total_le_take (L : List ByteArray) (k : Nat) : totalT (L.take k) ≤ totalT L := by
  have := total_take L k
  unfold totalT
  rw [List.length_take]; omega
theorem okl_of {L : List ByteArray} (h : ∀ s ∈ L, s.size ≤ 65536) (ht : totalT L ≤ 1048576) : OKL L := by
  have := body_le L h
  exact ⟨by unfold sizeP; omega, by unfold totalT at ht; omega, h⟩
def fitsT (zs : List ByteArray) : Bool := decide (∀ s ∈ zs, s.size ≤ 65536)
/-! alive -/
def aliveL : List ByteArray := [⟨#[97, 98]⟩, ⟨#[53]⟩, ⟨#[45, 51, 48, 48]⟩]
theorem intS_ab : intS ⟨#[97, 98]⟩ = none := by decide
theorem intS_5 : intS ⟨#[53]⟩ = some 5 := by
  unfold intS
  rw [show Lib.parseIntB 64 (⟨#[53]⟩ : ByteArray).data.toList = .ok 5 by decide]
  simp [Lib.itoa, Lib.decDigits, strOf]
theorem intS_300 : intS ⟨#[45, 51, 48, 48]⟩ = some (-300) := by
  unfold intS
  rw [show Lib.parseIntB 64 (⟨#[45, 51, 48, 48]⟩ : ByteArray).data.toList = .ok (-300) by decide]
  simp [Lib.itoa, Lib.decDigits, strOf]
theorem alive_packL : packL aliveL = [20, 0, 0, 0, 3, 0, 0, 0, 2, 97, 98, 3, 241, 5, 2, 242, 212, 254, 3, 255] := by
  unfold packL sizeP
  have h : bodyL aliveL = [2, 97, 98, 3, 241, 5, 2, 242, 212, 254, 3] := by
    unfold aliveL
    rw [bodyL_cons, bodyL_cons, bodyL_cons, bodyL_nil, entL, entL, entL, headL_short intS_ab (by decide), headL_int intS_5, headL_int intS_300]
    decide
  rw [h]
  decide
theorem alive_bytes : strOf (packL aliveL) = ⟨#[20, 0, 0, 0, 3, 0, 0, 0, 2, 97, 98, 3, 241, 5, 2, 242, 212, 254, 3, 255]⟩ := by rw [alive_packL]; rfl
theorem alive_fits : fitsT aliveL = true := by decide
theorem alive_find : findP aliveL ⟨#[53]⟩ 0 2 = -1 := by
  unfold findP
  rw [if_neg (by decide)]
  have h : (toldP aliveL).find? (hitP ⟨#[53]⟩ 0 2) = none := by
    unfold toldP hitP aliveL
    simp only [ByteArray.toList_eq]
    decide +kernel
  rw [h]
theorem alive_get : getV aliveL (-1) = .tuple #[.string ⟨#[45, 51, 48, 48]⟩, .bool true] := rfl
theorem alive_ins : insP aliveL 4 ⟨#[120]⟩ = (1, aliveL) := rfl
end Go.Proofs.YtfbhddllimfdlaaDoor
