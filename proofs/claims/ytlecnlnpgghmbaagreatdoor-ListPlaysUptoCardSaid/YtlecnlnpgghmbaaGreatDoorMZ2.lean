/- Lemmas and walks for ListPlays, part 2 of 5: the texts Pck12, Pck13, Pck14, Pck15, Pck16, Txt, PckA, Qck1, Qck2, Qck3, Qck4, Qck5, Qck6, Reg2, Apt, PckD, Qck7, Qck10, Qck11, Qck12, Qck15, Qck16. -/
import Derived.Test.YtlecnlnpgghmbaaGreatDoorMZ1
import Derived.RangeFuncNested
import Derived.RangeFuncBound
import Derived.RangeFuncCalls
import Derived.RangeFuncLeaves
import Derived.Shelf.Abstract
import Derived.OwnWalkIn
import Derived.TacticsInMore
import Derived.LoopNIn
import Derived.LoopIn
import Derived.ControlIn
import Derived.Deep.Cut
import Derived.WalkSpells
import Derived.WalkLawsBesides
import Derived.Lib.Hide
import Derived.Deep.QuietTactic
import Derived.BigQuiet
import Derived.ChangeSame
import Derived.OrdersIn
import Derived.Laws.EntriesVeiled
/- pack.change. -/
namespace Go.Proofs.YtlecnlnpgghmbaaGreatDoor
set_option linter.unusedVariables false
set_option linter.unusedSimpArgs false
open Go.RowKit
theorem sizeP_cut {L M : List ByteArray} {i j : Nat} (hij : i ≤ j) (hj : j ≤ L.length) : sizeP (L.take i ++ M ++ L.drop j) + offL L j = offL L i + (bodyL M).length + sizeP L := by
  have h1 : bodyL L = bodyL (L.take j) ++ bodyL (L.drop j) := by rw [← bodyL_append, List.take_append_drop]
  unfold sizeP offL
  rw [bodyL_append, bodyL_append, h1]
  simp only [List.length_append]
  omega
theorem packL_cut {L M : List ByteArray} {i j : Nat} : packL (L.take i ++ M ++ L.drop j) = leN 4 (sizeP (L.take i ++ M ++ L.drop j)) ++ (leN 4 (L.take i ++ M ++ L.drop j).length ++ (bodyL (L.take i) ++ (bodyL M ++ (bodyL (L.drop j) ++ [255])))) := by
  unfold packL
  rw [bodyL_append, bodyL_append]
  simp only [List.append_assoc]
set_option maxHeartbeats 3200000 in
set_option maxRecDepth 100000 in
theorem change_row {w : World} {p g cap : Nat} {cur : Array Value} {L : List ByteArray} (h : PackRow w p g cap cur L) (i j : Nat) (hij : i ≤ j) (hjl : j ≤ L.length) (M : List ByteArray) (ok : OKL (L.take i ++ M ++ L.drop j)) (ea : Option Addr) (ne ec : Nat) (hec : ne ≤ ec) (hne : (bodyL M).length = ne)
    (hes : ne = 0 ∨ ∃ b q, ea = some ⟨b, q, none⟩ ∧ ∀ i (hi : i < (bodyL M).length), w.cell? ⟨b, q + i, none⟩ = some (.int .u8 (bodyL M)[i].toNat)) (more : Int) (hmore : (L.length : Int) + more = ((L.take i ++ M ++ L.drop j).length : Nat)) :
    Calls Tryz.prog 108 #[.pointer (some ⟨p, 0, none⟩), .int .i64 (offL L i), .int .i64 (offL L j), .slice ea ne ec, .int .i64 more] w fun e w' => e = .returned (.tuple #[]) ∧ (∃ cap' cur', PackRow w' p w.heap.size cap' cur' (L.take i ++ M ++ L.drop j)) ∧ Chg (fun k => k = p) w w' := by
  obtain ⟨i0, q1, q2, q3, q4⟩ := info_parts info_u8
  have hcutN := sizeP_cut (M := M) hij hjl
  rw [hne] at hcutN
  have hcutL := packL_cut (L := L) (M := M) (i := i) (j := j)
  have h9 := offL_lt L i
  have h9j := offL_lt L j
  have hmono := offL_mono (L := L) hij
  have htk := packL_take L i
  have hdr := packL_drop L j
  have hdl := drop_length L j
  have hln := packL_length L
  have c0 := h.cell0
  have hpl := heap_lt h.head
  have hgl := h.row.lt
  have hne1 := h.ne
  have hle := h.le
  have hsz := h.ok.size
  have hcm := h.capm
  have hmany := h.ok.many
  have hLen := plen_row h
  obtain ⟨L', hL'⟩ : ∃ L', L.take i ++ M ++ L.drop j = L' := ⟨_, rfl⟩
  rw [hL'] at ok hmore hcutN hcutL ⊢
  have okz := ok.size
  have okm := ok.many
  obtain ⟨z, hz⟩ : ∃ z, sizeP L' = z := ⟨_, rfl⟩
  obtain ⟨n', hn'⟩ : ∃ n', L'.length = n' := ⟨_, rfl⟩
  obtain ⟨f, hf⟩ : ∃ f, offL L i = f := ⟨_, rfl⟩
  obtain ⟨t, ht⟩ : ∃ t, offL L j = t := ⟨_, rfl⟩
  obtain ⟨sz, hsz'⟩ : ∃ sz, sizeP L = sz := ⟨_, rfl⟩
  obtain ⟨B, hB⟩ : ∃ B, bodyL (L.take i) = B := ⟨_, rfl⟩
  obtain ⟨E, hE⟩ : ∃ E, bodyL M = E := ⟨_, rfl⟩
  obtain ⟨D, hD⟩ : ∃ D, bodyL (L.drop j) ++ [255] = D := ⟨_, rfl⟩
  rw [hf] at h9 hmono htk hcutN
  rw [ht] at h9j hmono hdr hdl hcutN
  rw [hz] at okz hcutN hcutL
  rw [hn'] at okm hmore hcutL
  rw [hsz'] at h9 h9j htk hdl hln c0 hle hsz hcutN
  rw [hE] at hne hes
  rw [hB, hE, hD] at hcutL
  rw [hB] at htk
  rw [hD] at hdr
  rw [hf, ht]
  obtain ⟨G, hG⟩ : ∃ G, w.heap.size = G := ⟨_, rfl⟩
  have hDl : D.length = sz - t := by rw [← hdr, hdl]
  have hAl : (leN 4 sz ++ (leN 4 L.length ++ B)).length = f := by rw [← htk]; simp; omega
  obtain ⟨A, hA⟩ : ∃ A, leN 4 sz ++ (leN 4 L.length ++ B) = A := ⟨_, rfl⟩
  rw [hA] at htk hAl
  -- the new row
  obtain ⟨cs0, hcs0⟩ : ∃ cs0, cs0 = (List.replicate z (Value.int .u8 0)).toArray := ⟨_, rfl⟩
  have hmk : (Instr.makeSlice 90 (.int .i64 z) (.int .i64 z)).run Tryz.prog w = .ok (.slice (some ⟨w.heap.size, 0, none⟩) z z) (w.alloc (.cells cs0 5)) := by
    rw [hcs0]; exact run_make_row w _ _ i0 _ 1 Tryz.underlying90 q1 q2 q3 q4 rfl z (by unfold maxLen; omega) (by omega)
  have hzz : z = f + (ne + (sz - t)) := by omega
  have l0 : cs0.toList = List.replicate f (Value.int .u8 0) ++ (List.replicate ne (Value.int .u8 0) ++ List.replicate (sz - t) (Value.int .u8 0)) := by
    rw [hcs0, hzz]
    simp
  have z0 : cs0.size = z := by rw [hcs0]; simp
  obtain ⟨w1, hw1⟩ : ∃ w1, w1 = w.alloc (.cells cs0 5) := ⟨_, rfl⟩
  have r1 : RowAt w1 G 5 cs0 := by rw [hw1, ← hG]; exact .of (heap_new _ _)
  have c1 : Chg (fun k => k = G) w w1 := by rw [hw1]; exact Chg.alloc _ _ _
  have p1 := h.chg c1 (by omega) (by omega)
  -- what stands ahead
  obtain ⟨cs1, hcs1⟩ : ∃ cs1, cs1 = spliced cs0 0 (A.map u8v) := ⟨_, rfl⟩
  have hcp1 := copy_bytes (o := 0) (dl := z) (dc := z) r1 (some ⟨g, 0, none⟩) A f cap hAl (by omega) (by omega) (.inr ⟨g, 0, rfl, p1.cells 0 (by rw [List.drop_zero, hAl, htk])⟩)
  rw [← hcs1] at hcp1
  have l1 : cs1.toList = A.map u8v ++ (List.replicate ne (Value.int .u8 0) ++ List.replicate (sz - t) (Value.int .u8 0)) := by
    have := row_splice (a := []) (b := List.replicate f (Value.int .u8 0)) (c := List.replicate ne (Value.int .u8 0) ++ List.replicate (sz - t) (Value.int .u8 0)) (news := A.map u8v) (cur := cs0) l0 (by simp [hAl]) (o := 0) rfl
    rw [hcs1, this]; rfl
  have z1 : cs1.size = z := by rw [hcs1, spliced_size _ _ _ (by simp; omega), z0]
  obtain ⟨w2, hw2⟩ : ∃ w2, w2 = w1.setRow G cs1 := ⟨_, rfl⟩
  rw [← hw2] at hcp1
  have r2 : RowAt w2 G 5 cs1 := by rw [hw2]; exact r1.setRow (by omega)
  have c2 : Chg (fun k => k = G) w w2 := by rw [hw2]; exact c1.trans (Chg.setRow (fun k => k = G) _ _ _ rfl) fun _ h _ => h
  have p2 := h.chg c2 (by omega) (by omega)
  -- the bytes
  obtain ⟨cs2, hcs2⟩ : ∃ cs2, cs2 = spliced cs1 f (E.map u8v) := ⟨_, rfl⟩
  have hes2 : ne = 0 ∨ ∃ b q, ea = some ⟨b, q, none⟩ ∧ ∀ i (hi : i < E.length), w2.cell? ⟨b, q + i, none⟩ = some (.int .u8 E[i].toNat) := hes.imp id fun ⟨b, q, e, hc⟩ => ⟨b, q, e, fun i hi => by
    have := hc i hi
    have hlt := World.block_lt_of_cell? w _ this
    rw [← this]
    have hb : Below w.heap.size w w2 := belowChg (Below.refl _ _) c2 (Nat.le_refl _) fun k hk _ => by omega
    exact hb.cell hlt⟩
  have hcp2 := copy_bytes (o := f) (dl := z - f) (dc := z - f) r2 ea E ne ec hne (by omega) (by omega) hes2
  rw [← hcs2] at hcp2
  have l2 : cs2.toList = A.map u8v ++ (E.map u8v ++ List.replicate (sz - t) (Value.int .u8 0)) := by
    have := row_splice (b := List.replicate ne (Value.int .u8 0)) (news := E.map u8v) l1 (by simp [hne]) (o := f) (by simp [hAl])
    rw [hcs2, this]
  have z2 : cs2.size = z := by rw [hcs2, spliced_size _ _ _ (by simp; omega), z1]
  obtain ⟨w3, hw3⟩ : ∃ w3, w3 = w2.setRow G cs2 := ⟨_, rfl⟩
  rw [← hw3] at hcp2
  have r3 : RowAt w3 G 5 cs2 := by rw [hw3]; exact r2.setRow (by omega)
  have c3 : Chg (fun k => k = G) w w3 := by rw [hw3]; exact c2.trans (Chg.setRow (fun k => k = G) _ _ _ rfl) fun _ h _ => h
  have p3 := h.chg c3 (by omega) (by omega)
  -- what stands behind
  obtain ⟨cs3, hcs3⟩ : ∃ cs3, cs3 = spliced cs2 (f + ne) (D.map u8v) := ⟨_, rfl⟩
  have hcp3 := copy_bytes (w := w3.drewN 1) (o := f + ne) (dl := z - (f + ne)) (dc := z - (f + ne)) (r3.drewN 1) (some ⟨g, t, none⟩) D (sz - t) (cap - t) hDl (by omega) (by omega) (.inr ⟨g, t, rfl, (p3.chg (Chg.drewN (fun _ => False) w3 1) id id).cells t (by rw [hdr, List.take_length])⟩)
  rw [← hcs3] at hcp3
  have l3 : cs3.toList = A.map u8v ++ (E.map u8v ++ D.map u8v) := by
    have := row_splice (a := A.map u8v ++ E.map u8v) (b := List.replicate (sz - t) (Value.int .u8 0)) (c := []) (news := D.map u8v) (by rw [l2, List.append_nil, List.append_assoc]) (by simp [hDl]) (o := f + ne) (by simp [hAl, hne])
    rw [hcs3, this, List.append_nil, List.append_assoc]
  have z3 : cs3.size = z := by rw [hcs3, spliced_size _ _ _ (by simp; omega), z2]
  obtain ⟨w4, hw4⟩ : ∃ w4, w4 = (w3.drewN 1).setRow G cs3 := ⟨_, rfl⟩
  rw [← hw4] at hcp3
  have r4 : RowAt w4 G 5 cs3 := by rw [hw4]; exact (r3.drewN 1).setRow (by omega)
  have c4 : Chg (fun k => k = G) w w4 := by rw [hw4]; exact c3.trans ((Chg.drewN (fun k => k = G) w3 1).trans (Chg.setRow (fun k => k = G) _ _ _ rfl) fun _ h _ => h) fun _ h _ => h
  -- the head
  have hput1 := put_any G 0 4 z z cs3 5 w4 (by omega) (by omega) r4
  obtain ⟨cs5, hcs5⟩ : ∃ cs5, cs5 = wrs cs3 0 ((leN 4 z).map u8v) := ⟨_, rfl⟩
  rw [← hcs5] at hput1
  have l5 : cs5.toList = (leN 4 z).map u8v ++ ((leN 4 L.length).map u8v ++ (B.map u8v ++ (E.map u8v ++ D.map u8v))) := by
    rw [← hA] at l3
    have := row_wrs (a := []) (b := (leN 4 sz).map u8v) (c := (leN 4 L.length).map u8v ++ (B.map u8v ++ (E.map u8v ++ D.map u8v))) (b' := (leN 4 z).map u8v) (cur := cs3) (by rw [l3]; simp) (by simp) (o := 0) rfl
    rw [hcs5, this]; rfl
  have z5 : cs5.size = z := by rw [hcs5, wrs_size, z3]
  obtain ⟨w5, hw5⟩ : ∃ w5, w5 = w4.setRow G cs5 := ⟨_, rfl⟩
  have r5 : RowAt w5 G 5 cs5 := by rw [hw5]; exact r4.setRow (by omega)
  have c5 : Chg (fun k => k = G) w w5 := by rw [hw5]; exact c4.trans (Chg.setRow (fun k => k = G) _ _ _ rfl) fun _ h _ => h
  have hput2 := put_any G 4 4 (z - 4) n' cs5 5 w5 (by omega) (by omega) r5
  obtain ⟨cs6, hcs6⟩ : ∃ cs6, cs6 = wrs cs5 4 ((leN 4 n').map u8v) := ⟨_, rfl⟩
  rw [← hcs6] at hput2
  have l6 : cs6.toList = (packL L').map u8v := by
    have := row_wrs (a := (leN 4 z).map u8v) (b := (leN 4 L.length).map u8v) (c := B.map u8v ++ (E.map u8v ++ D.map u8v)) (b' := (leN 4 n').map u8v) (cur := cs5) l5 (by simp) (o := 4) (by simp)
    rw [hcs6, this, hcutL]; simp
  have z6 : cs6.size = z := by rw [hcs6, wrs_size, z5]
  obtain ⟨w6, hw6⟩ : ∃ w6, w6 = w5.setRow G cs6 := ⟨_, rfl⟩
  have r6 : RowAt w6 G 5 cs6 := by rw [hw6]; exact r5.setRow (by omega)
  have c6 : Chg (fun k => k = G) w w6 := by rw [hw6]; exact c5.trans (Chg.setRow (fun k => k = G) _ _ _ rfl) fun _ h _ => h
  have p6 := h.chg c6 (by omega) (by omega)
  obtain ⟨w7, hw7⟩ : ∃ w7, w7 = w6.setCell ⟨p, 0, none⟩ (.slice (some ⟨G, 0, none⟩) z z) := ⟨_, rfl⟩
  have hd7 : w7.heap[p]? = some (.cells #[.slice (some ⟨G, 0, none⟩) z z] 151 (0, 0)) := by rw [hw7]; exact setCell_head p6.head 0 _
  have c67 : Chg (fun k => k = p) w6 w7 := by rw [hw7]; exact Chg.setCell (fun k => k = p) _ _ _ rfl
  have r7 := r6.keep c67 (show ¬ G = p by omega)
  have HFin := Lib.hid (show (∃ cap' cur', PackRow w7 p G cap' cur' L') ∧ Chg (fun k => k = p) w w7 from
    ⟨⟨z, cs6, { head := by rw [hz]; exact hd7, row := r7, size := z6, le := by omega, capm := by unfold maxLen; omega, bytes := by rw [← l6, hz, List.take_of_length_le (by rw [Array.length_toList]; omega)], ok := ok }⟩,
      (c6.mono (S' := fun k => k = p) fun k hk hlt => by omega).trans c67 fun _ h _ => h⟩)
  have c01 := p1.cell0
  have c02 := p2.cell0
  have c03 := p3.cell0
  have c06 := p6.cell0
  have f06 := frozen_in p6.head 0
  rw [hsz'] at c01 c02 c03 c06
  have hszE : (sz : Int) - ((t : Int) - (f : Int)) + (ne : Int) = (z : Int) := by omega
  obtain ⟨X1, fx, hX1, hfx, hFx⟩ := classOf (fun x => x.cell? ⟨p, 0, none⟩ = some (.slice (some ⟨g, 0, none⟩) sz cap)) c03
  have HF1 := Lib.hid (hFx w3.drew c03)
  have HLen := Lib.hid hLen
  have HC1 := Lib.hid hcp1
  have HC2 := Lib.hid hcp2
  have HC3 := Lib.hid hcp3
  have HP1 := Lib.hid hput1
  have HP2 := Lib.hid hput2
  have HW1 := Lib.hid hw1
  have HW5 := Lib.hid hw5
  have HW6 := Lib.hid hw6
  have HW7 := Lib.hid hw7
  have HG := Lib.hid hG
  unfold maxLen at hcm
  have hb1 : f ≤ sz := by omega
  have hb2 : ¬ z = f := by omega
  have hb3 : ¬ z = f + ne := by omega
  have hb4 : ¬ cap = t := by omega
  have hb5 : f ≤ z := by omega
  have hb6 : f + ne ≤ z := by omega
  have hb7 : t ≤ sz := by omega
  have hb8 : 9 ≤ z := by omega
  have hb9 : ¬ z = 4 := by omega
  rw [hG] at hmk
  clear hFx h p1 p2 p3 p6 hLen hcp1 hcp2 hcp3 hput1 hput2 hw1 hw2 hw3 hw4 hw5 hw6 hw7 hd7 c67 r7 c1 c2 c3 c4 c5 c6 r1 r2 r3 r4 r5 r6 l0 l1 l2 l3 l5 l6 z0 z1 z2 z3 z5 z6 hcs0 hcs1 hcs2 hcs3 hcs5 hcs6 hzz hes hes2 hA htk hAl hDl hcutN hcutL ok hmany hdr hdl hln h9 h9j hmono q1 q2 q3 q4 hL' hz hn' hf ht hsz' hB hE hD hij hjl hne hne1 hpl hgl
  go_enter Tryz.func108, Tryz.ntmps108
  go_wp2_with fail
  refine HLen.out.mono ?_
  rintro e w' ⟨rfl, rfl⟩
  go_upto_region 3 with (fail)
  rw [← HW1.out]
  have hC1 := HC1.out
  have hC2 := HC2.out
  go_upto_region 5 with (fail)
  clear hC1 hC2 c0 c01 c02 c03 hmk hszE
  refine wp_region_text ⟨[12], [], 12⟩ (fun w' => ∃ x : X1, w' = fx x) (by kernel_rfl) (by kernel_rfl) HF1.out ?_
  refine wpC_seg false (HF1.out) 12 0 _ _ (by rfl) (by rfl) ?_
  simp only [List.take_succ_cons, List.take_zero, List.drop_succ_cons, List.drop_zero, Bool.false_eq_true, if_false, Nat.zero_add, Nat.reduceAdd]
  repeat (go_big_quiet_step (fail))
  refine wpQuiet_nil ?_
  refine wpC_value (by rfl) (by rfl) (exec_copy rfl HC3.out) (fun h => absurd h (by decide)) ?_
  refine wpC_nil ?_
  simp only [Act.put, List.setIfInBounds_toArray, List.set_cons_succ, List.set_cons_zero]
  clear hfx hX1 HF1 fx
  go_wp2_with fail
  refine HP1.out.mono ?_
  rintro e w' ⟨rfl, hw'⟩
  obtain rfl : w' = w5 := hw'.trans HW5.out.symm
  clear hw'
  go_wp2_with fail
  refine HP2.out.mono ?_
  rintro e w' ⟨rfl, hw'⟩
  obtain rfl : w' = w6 := hw'.trans HW6.out.symm
  clear hw'
  go_wp2_with fail
  rw [← HW7.out]
  go_end0
  exact ⟨rfl, by rw [HG.out]; exact HFin.out⟩
end Go.Proofs.YtlecnlnpgghmbaaGreatDoor

/- pack: New, Insert, as objects. -/
namespace Go.Proofs.YtlecnlnpgghmbaaGreatDoor
set_option linter.unusedVariables false
set_option linter.unusedSimpArgs false
open Go.RowKit
/-- A pack and its blocks. -/
def PackF (w : World) (p : Nat) (F : Nat → Prop) (L : List ByteArray) : Prop := ∃ g cap cur, PackRow w p g cap cur L ∧ ∀ k, F k ↔ k = p ∨ k = g
section
variable {w : World} {p : Nat} {F : Nat → Prop} {L : List ByteArray}
theorem PackF.ok (h : PackF w p F L) : OKL L := by obtain ⟨_, _, _, h, _⟩ := h; exact h.ok
theorem PackF.lt (h : PackF w p F L) {k : Nat} (hk : F k) : k < w.heap.size := by
  obtain ⟨g, cap, cur, h, hF⟩ := h
  rcases (hF k).1 hk with rfl | rfl
  · exact heap_lt h.head
  · exact h.row.lt
theorem PackF.chg (h : PackF w p F L) {S : Nat → Prop} {w' : World} (hc : Chg S w w') (hn : ∀ k, F k → ¬ S k) : PackF w' p F L := by
  obtain ⟨g, cap, cur, h, hF⟩ := h
  exact ⟨g, cap, cur, h.chg hc (hn p ((hF p).2 (.inl rfl))) (hn g ((hF g).2 (.inr rfl))), hF⟩
theorem PackF.below (h : PackF w p F L) {w' : World} (hb : Below w.heap.size w w') : PackF w' p F L := h.chg (Chg.of_below (fun _ => False) hb) fun _ _ => id
theorem PackF.head (h : PackF w p F L) : F p := by obtain ⟨g, cap, cur, h, hF⟩ := h; exact (hF p).2 (.inl rfl)
end
theorem okl_nil : OKL [] := ⟨by decide, by decide, by simp⟩
set_option maxHeartbeats 800000 in
set_option maxRecDepth 100000 in
theorem packNew (w : World) : Calls Tryz.prog 69 #[] w fun e w' => ∃ p, e = .returned (.pointer (some ⟨p, 0, none⟩)) ∧ (∃ F, PackF w' p F [] ∧ ∀ k, F k → w.heap.size ≤ k) ∧ w.heap.size ≤ p ∧ Chg (fun _ => False) w w' := by
  obtain ⟨w1, hw1⟩ : ∃ w1, w1 = w.alloc (.cells #[.int .u8 9, .int .u8 0, .int .u8 0, .int .u8 0, .int .u8 0, .int .u8 0, .int .u8 0, .int .u8 0, .int .u8 255] 5) := ⟨_, rfl⟩
  obtain ⟨w2, hw2⟩ : ∃ w2, w2 = w1.alloc (.cells #[.slice (some ⟨w.heap.size, 0, none⟩) 9 9] 151) := ⟨_, rfl⟩
  have hs1 : w1.heap.size = w.heap.size + 1 := by rw [hw1]; simp
  have HR := Lib.hid (show PackRow w2 w1.heap.size w.heap.size 9 #[.int .u8 9, .int .u8 0, .int .u8 0, .int .u8 0, .int .u8 0, .int .u8 0, .int .u8 0, .int .u8 0, .int .u8 255] [] from
    { head := by rw [hw2]; exact heap_new _ _, row := by rw [hw2, hw1]; exact .of (heap_old (heap_new _ _) _), size := rfl, le := by decide, capm := by decide, bytes := rfl, ok := okl_nil })
  have HC := Lib.hid (show Chg (fun _ => False) w w2 by rw [hw2, hw1]; exact (Chg.alloc _ _ _).trans (Chg.alloc _ _ _) fun _ h _ => h)
  have HW1 := Lib.hid hw1
  have HW2 := Lib.hid hw2
  rw [hs1] at HR
  clear hw1 hw2 hs1
  go_enter Tryz.func69, Tryz.ntmps69
  go_wp2_with fail
  rw [← HW1.out]
  rw [← HW2.out]
  go_ret
  exact ⟨_, rfl, ⟨_, ⟨_, _, _, HR.out, fun k => Iff.rfl⟩, fun k hk => by rcases hk with rfl | rfl <;> omega⟩, by omega, HC.out⟩
def insP (L : List ByteArray) (a : Int) (s : ByteArray) : Int × List ByteArray :=
  if a < 0 ∨ (L.length : Int) < a then (1, L) else if 65536 < s.size ∨ 1048576 ≤ L.length then (3, L) else if 1073741824 < sizeP L + (entL s).length then (3, L) else (0, L.take a.toNat ++ [s] ++ L.drop a.toNat)
theorem take_drop_len {L : List ByteArray} {i : Nat} (h : i ≤ L.length) (M : List ByteArray) : (L.take i ++ M ++ L.drop i).length = L.length + M.length := by simp; omega
theorem ok_ins {L : List ByteArray} (h : OKL L) {i : Nat} (hi : i ≤ L.length) {s : ByteArray} (hs : s.size ≤ 65536) (hm : L.length < 1048576) (hz : sizeP L + (entL s).length ≤ 1073741824) : OKL (L.take i ++ [s] ++ L.drop i) := by
  have h1 := sizeP_cut (L := L) (M := [s]) (Nat.le_refl i) hi
  have h2 : bodyL [s] = entL s := by rw [bodyL_cons, bodyL_nil, List.append_nil]
  rw [h2] at h1
  refine ⟨by omega, by rw [take_drop_len hi]; simp; omega, fun x hx => ?_⟩
  simp only [List.mem_append, List.mem_singleton] at hx
  rcases hx with (hx | rfl) | hx
  · exact h.each _ (List.mem_of_mem_take hx)
  · exact hs
  · exact h.each _ (List.mem_of_mem_drop hx)
set_option maxHeartbeats 1600000 in
set_option maxRecDepth 100000 in
theorem packInsert {w : World} {p : Nat} {F : Nat → Prop} {L : List ByteArray} (h : PackF w p F L) (hl : Laid w) (a : Int) (ha : -9223372036854775808 ≤ a ∧ a ≤ 9223372036854775807) (s : ByteArray) (hs : s.size ≤ 9000000000000000000) :
    Calls Tryz.prog 98 #[.pointer (some ⟨p, 0, none⟩), .int .i64 a, .string s] w fun e w' => e = .returned (.int .i64 (insP L a s).1) ∧ (∃ F', PackF w' p F' (insP L a s).2 ∧ Fresh w F F') ∧ Chg F w w' := by
  obtain ⟨g, cap, cur, hr, hF⟩ := h
  have HFst := Lib.hid (show Chg F w w ∧ ∃ F', PackF w p F' L ∧ Fresh w F F' from ⟨Chg.refl _ _, F, ⟨g, cap, cur, hr, hF⟩, fun k hk => .inl hk⟩)
  have HG := Lib.hid (gone_row hr.cell0)
  have HL := Lib.hid (plen_row hr)
  have hmany := hr.ok.many
  have hsz := hr.ok.size
  by_cases h1 : a < 0 ∨ (L.length : Int) < a
  · have hp : insP L a s = (1, L) := by unfold insP; rw [if_pos h1]
    rw [hp]
    clear hr hF hl hp
    by_cases h0 : a < 0
    · have hd : decide (a < 0) = true := by simp; omega
      clear h1
      go_enter Tryz.func98, Tryz.ntmps98
      go_wp2_with fail
      refine HG.out.mono ?_
      rintro e w' ⟨rfl, rfl⟩
      go_wp2_with fail
      go_ret
      exact ⟨rfl, HFst.out.2, HFst.out.1⟩
    · have hd : decide (a < 0) = false := by simp; omega
      have hd2 : decide ((L.length : Int) < a) = true := by simp; omega
      clear h1
      go_enter Tryz.func98, Tryz.ntmps98
      go_wp2_with fail
      refine HG.out.mono ?_
      rintro e w' ⟨rfl, rfl⟩
      go_wp2_with fail
      refine HL.out.mono ?_
      rintro e w' ⟨rfl, rfl⟩
      go_wp2_with fail
      go_ret
      exact ⟨rfl, HFst.out.2, HFst.out.1⟩
  · obtain ⟨i, rfl⟩ : ∃ i : Nat, a = (i : Int) := ⟨a.toNat, by omega⟩
    have hil : i ≤ L.length := by omega
    have hd : decide ((i : Int) < 0) = false := by simp
    have hd2 : decide (L.length < i) = false := by simp [hil]
    by_cases h2 : 65536 < s.size ∨ 1048576 ≤ L.length
    · have hp : insP L i s = (3, L) := by unfold insP; rw [if_neg h1, if_pos h2]
      rw [hp]
      clear hr hF hl hp h1
      by_cases h3 : 65536 < s.size
      · have hd3 : decide ((65536 : Int) < (s.size : Int)) = true := by simp; omega
        clear h2
        go_enter Tryz.func98, Tryz.ntmps98
        go_wp2_with fail
        refine HG.out.mono ?_
        rintro e w' ⟨rfl, rfl⟩
        go_wp2_with fail
        refine HL.out.mono ?_
        rintro e w' ⟨rfl, rfl⟩
        go_wp2_with fail
        go_ret
        exact ⟨rfl, HFst.out.2, HFst.out.1⟩
      · have hd3 : decide ((65536 : Int) < (s.size : Int)) = false := by simp; omega
        have hd4 : decide ((1048576 : Int) ≤ (L.length : Int)) = true := by simp; omega
        clear h2
        go_enter Tryz.func98, Tryz.ntmps98
        go_wp2_with fail
        refine HG.out.mono ?_
        rintro e w' ⟨rfl, rfl⟩
        go_wp2_with fail
        refine HL.out.mono ?_
        rintro e w' ⟨rfl, rfl⟩
        go_wp2_with fail
        refine HL.out.mono ?_
        rintro e w' ⟨rfl, rfl⟩
        go_wp2_with fail
        go_ret
        exact ⟨rfl, HFst.out.2, HFst.out.1⟩
    · have hd3 : decide ((65536 : Int) < (s.size : Int)) = false := by simp; omega
      have hd4 : decide ((1048576 : Int) ≤ (L.length : Int)) = false := by simp; omega
      have HE := Lib.hid (entry_any s (by omega) hl)
      have c0 := hr.cell0
      have he := entL_length s (by omega)
      have hle := hr.le
      obtain ⟨ne, hne⟩ : ∃ ne, (entL s).length = ne := ⟨_, rfl⟩
      rw [hne] at HE he
      have hpl := heap_lt hr.head
      by_cases h5 : 1073741824 < sizeP L + ne
      · have hp : insP L i s = (3, L) := by unfold insP; rw [if_neg h1, if_neg h2, hne, if_pos h5]
        rw [hp]
        have hd5 : decide ((1073741824 : Int) < (sizeP L : Int) + (ne : Int)) = true := by simp; omega
        have HFst2 := Lib.hid (show ∀ w', Below w.heap.size w w' → Chg F w w' ∧ ∃ F', PackF w' p F' L ∧ Fresh w F F' from fun w' hb => ⟨Chg.of_below _ hb, F, ⟨g, cap, cur, hr.chg (Chg.of_below (fun _ => False) hb) id id, hF⟩, fun k hk => .inl hk⟩)
        clear hr hF hl hp h1 h2 HFst hne
        go_enter Tryz.func98, Tryz.ntmps98
        go_wp2_with fail
        refine HG.out.mono ?_
        rintro e w' ⟨rfl, rfl⟩
        go_wp2_with fail
        refine HL.out.mono ?_
        rintro e w' ⟨rfl, rfl⟩
        go_wp2_with fail
        refine HL.out.mono ?_
        rintro e w' ⟨rfl, rfl⟩
        go_wp2_with fail
        refine HE.out.mono ?_
        rintro e w1 ⟨v1, rfl, s1, b1⟩
        obtain ⟨a1, cp1, rfl, _⟩ := s1.arg
        have B1 := Lib.hid b1
        have c01 := (b1.cell (p := ⟨p, 0, none⟩) hpl).trans c0
        clear s1 b1 HE
        go_wp2_with fail
        go_ret
        exact ⟨rfl, (HFst2.out _ B1.out).2, (HFst2.out _ B1.out).1⟩
      · have hp : insP L i s = (0, L.take i ++ [s] ++ L.drop i) := by unfold insP; rw [if_neg h1, if_neg h2, hne, if_neg h5]; simp
        rw [hp]
        have hd5 : decide ((1073741824 : Int) < (sizeP L : Int) + (ne : Int)) = false := by simp; omega
        have okk := ok_ins hr.ok hil (s := s) (by omega) (by omega) (by rw [hne]; omega)
        have hb1 : bodyL [s] = entL s := by rw [bodyL_cons, bodyL_nil, List.append_nil]
        have HSk := Lib.hid (fun w' (hb : Below w.heap.size w w') => seek_row (hr.chg (Chg.of_below (fun _ => False) hb) id id) (hl.below hb) hil)
        have HCh := Lib.hid (fun w' (hb : Below w.heap.size w w') => change_row (hr.chg (Chg.of_below (fun _ => False) hb) id id) i i (Nat.le_refl _) hil [s] okk)
        have HFin := Lib.hid (show ∀ w' w'' , Below w.heap.size w w' → (∃ cap' cur', PackRow w'' p w'.heap.size cap' cur' (L.take i ++ [s] ++ L.drop i)) → Chg (fun k => k = p) w' w'' → (∃ F', PackF w'' p F' (L.take i ++ [s] ++ L.drop i) ∧ Fresh w F F') ∧ Chg F w w'' from fun w' w'' hb ⟨cap', cur', hr'⟩ hc =>
          ⟨⟨fun k => k = p ∨ k = w'.heap.size, ⟨_, cap', cur', hr', fun k => Iff.rfl⟩, fun k hk => hk.imp (fun e => (hF k).2 (.inl e)) fun e => by have := hb.size; omega⟩,
            (Chg.of_below F hb).trans hc fun k hk _ => (hF k).2 (.inl hk)⟩)
        have HO := Lib.hid (And.intro hb1 hne)
        have HTl := Lib.hid (take_drop_len hil [s])
        clear hr hF hl hp h1 h2 HFst hne okk hb1
        generalize offL L i = k at *
        generalize sizeP L = sz at *
        go_enter Tryz.func98, Tryz.ntmps98
        go_wp2_with fail
        refine HG.out.mono ?_
        rintro e w' ⟨rfl, rfl⟩
        go_wp2_with fail
        refine HL.out.mono ?_
        rintro e w' ⟨rfl, rfl⟩
        go_wp2_with fail
        refine HL.out.mono ?_
        rintro e w' ⟨rfl, rfl⟩
        go_wp2_with fail
        refine HE.out.mono ?_
        rintro e w1 ⟨v1, rfl, s1, b1⟩
        obtain ⟨a1, cp1, rfl, hargs⟩ := s1.arg
        have B1 := Lib.hid b1
        have S1 := Lib.hid s1
        have hcp1 := hargs.1
        have c01 := (b1.cell (p := ⟨p, 0, none⟩) hpl).trans c0
        clear s1 b1 HE hargs
        go_wp2_with fail
        refine (HSk.out _ B1.out).mono ?_
        rintro e w2 ⟨rfl, b2⟩
        have B2 := Lib.hid (B1.out.trans (b2.mono B1.out.size))
        have HC2 := Lib.hid (HCh.out w2 B2.out a1 ne cp1 hcp1 (by rw [HO.out.1, HO.out.2]) (by
          obtain ⟨b, o, e, hc⟩ := (S1.out.below b2).arg_bytes (by omega)
          cases e
          exact .inr ⟨b, o, rfl, by rw [HO.out.1]; exact hc⟩) 1 (by rw [HTl.out]; simp))
        clear b2 c01
        go_wp2_with fail
        refine HC2.out.mono ?_
        rintro e w3 ⟨rfl, hr3, c3⟩
        have HF3 := Lib.hid (HFin.out w2 w3 B2.out hr3 c3)
        clear hr3 c3
        go_wp2_with fail
        go_ret
        exact ⟨rfl, HF3.out.1, HF3.out.2⟩
end Go.Proofs.YtlecnlnpgghmbaaGreatDoor

/- pack: Set, Delete, and the other questions, as objects. -/
namespace Go.Proofs.YtlecnlnpgghmbaaGreatDoor
set_option linter.unusedVariables false
set_option linter.unusedSimpArgs false
open Go.RowKit
def setP (L : List ByteArray) (a : Int) (s : ByteArray) : Int × List ByteArray :=
  if placeB L.length a = false then (6, L) else if 65536 < s.size then (3, L) else
    if 1073741824 + (entL (L.getD (placeN L.length a).toNat ByteArray.empty)).length < sizeP L + (entL s).length then (3, L) else (0, L.take (placeN L.length a).toNat ++ [s] ++ L.drop ((placeN L.length a).toNat + 1))
theorem ok_set {L : List ByteArray} (h : OKL L) {i : Nat} (hi : i < L.length) {s : ByteArray} (hs : s.size ≤ 65536) (hz : sizeP L + (entL s).length ≤ 1073741824 + (entL L[i]).length) : OKL (L.take i ++ [s] ++ L.drop (i + 1)) := by
  have h1 := sizeP_cut (L := L) (M := [s]) (show i ≤ i + 1 by omega) (show i + 1 ≤ L.length by omega)
  have h2 : bodyL [s] = entL s := by rw [bodyL_cons, bodyL_nil, List.append_nil]
  have h3 := offL_succ hi
  rw [h2] at h1
  have hm := h.many
  refine ⟨by omega, by simp; omega, fun x hx => ?_⟩
  simp only [List.mem_append, List.mem_singleton] at hx
  rcases hx with (hx | rfl) | hx
  · exact h.each _ (List.mem_of_mem_take hx)
  · exact hs
  · exact h.each _ (List.mem_of_mem_drop hx)
set_option maxHeartbeats 1600000 in
set_option maxRecDepth 100000 in
theorem packSet {w : World} {p : Nat} {F : Nat → Prop} {L : List ByteArray} (h : PackF w p F L) (hl : Laid w) (a : Int) (ha : -9223372036854775808 ≤ a ∧ a ≤ 9223372036854775807) (s : ByteArray) (hs : s.size ≤ 9000000000000000000) :
    Calls Tryz.prog 165 #[.pointer (some ⟨p, 0, none⟩), .int .i64 a, .string s] w fun e w' => e = .returned (.int .i64 (setP L a s).1) ∧ (∃ F', PackF w' p F' (setP L a s).2 ∧ Fresh w F F') ∧ Chg F w w' := by
  obtain ⟨g, cap, cur, hr, hF⟩ := h
  have HFst := Lib.hid (show Chg F w w ∧ ∃ F', PackF w p F' L ∧ Fresh w F F' from ⟨Chg.refl _ _, F, ⟨g, cap, cur, hr, hF⟩, fun k hk => .inl hk⟩)
  have HG := Lib.hid (gone_row hr.cell0)
  have HP := Lib.hid (place_row hr a ha)
  have hmany := hr.ok.many
  have hsz := hr.ok.size
  cases hb : placeB L.length a with
  | false =>
    have hp : setP L a s = (6, L) := by unfold setP; rw [hb]; rfl
    rw [hp]
    rw [hb] at HP
    clear hr hF hl hp hb
    go_enter Tryz.func165, Tryz.ntmps165
    go_wp2_with fail
    refine HG.out.mono ?_
    rintro e w' ⟨rfl, rfl⟩
    go_wp2_with fail
    refine HP.out.mono ?_
    rintro e w' ⟨rfl, rfl⟩
    go_wp2_with fail
    go_ret
    exact ⟨rfl, HFst.out.2, HFst.out.1⟩
  | true =>
    obtain ⟨i, hi, hpi⟩ := placeB_lt hb
    have hgd : L.getD i ByteArray.empty = L[i] := by simp [List.getD, hi]
    rw [hb, hpi] at HP
    have hpf : setP L a s = if 65536 < s.size then (3, L) else if 1073741824 + (entL L[i]).length < sizeP L + (entL s).length then (3, L) else (0, L.take i ++ [s] ++ L.drop (i + 1)) := by
      unfold setP; rw [hb, hpi, Int.toNat_natCast, hgd]; rfl
    by_cases h3 : 65536 < s.size
    · have hp : setP L a s = (3, L) := by rw [hpf, if_pos h3]
      rw [hp]
      have hd3 : decide ((65536 : Int) < (s.size : Int)) = true := by simp; omega
      clear hr hF hl hp hpf hb hpi
      go_enter Tryz.func165, Tryz.ntmps165
      go_wp2_with fail
      refine HG.out.mono ?_
      rintro e w' ⟨rfl, rfl⟩
      go_wp2_with fail
      refine HP.out.mono ?_
      rintro e w' ⟨rfl, rfl⟩
      go_wp2_with fail
      go_ret
      exact ⟨rfl, HFst.out.2, HFst.out.1⟩
    · have hd3 : decide ((65536 : Int) < (s.size : Int)) = false := by simp; omega
      have hchg : ∀ w', Below w.heap.size w w' → PackRow w' p g cap cur L := fun w' hb => hr.chg (Chg.of_below (fun _ => False) hb) id id
      have HE := Lib.hid (fun w' (hb : Below w.heap.size w w') => entry_any s (by omega) (hl.below hb))
      have HSk := Lib.hid (seek_row hr hl (i := i) (by omega))
      have HNx := Lib.hid (fun w' (hb : Below w.heap.size w w') => next_row (hchg w' hb) (hl.below hb) hi)
      have c0 := hr.cell0
      have he := entL_length s (by omega)
      have hsm := hr.ok.small hi
      have hei := entL_length L[i] (by omega)
      have hle := hr.le
      have hoff := offL_succ hi
      have hofl := (offL_lt L (i + 1)).2
      have hb1 : bodyL [s] = entL s := by rw [bodyL_cons, bodyL_nil, List.append_nil]
      obtain ⟨ne, hne⟩ : ∃ ne, (entL s).length = ne := ⟨_, rfl⟩
      rw [hne] at HE he hpf
      have hpl := heap_lt hr.head
      have HFst2 := Lib.hid (show ∀ w', Below w.heap.size w w' → Chg F w w' ∧ ∃ F', PackF w' p F' L ∧ Fresh w F F' from fun w' hb => ⟨Chg.of_below _ hb, F, ⟨g, cap, cur, hchg w' hb, hF⟩, fun k hk => .inl hk⟩)
      by_cases h5 : 1073741824 + (entL L[i]).length < sizeP L + ne
      · have hp : setP L a s = (3, L) := by rw [hpf, if_neg h3, if_pos h5]
        rw [hp]
        have hd5 : decide ((1073741824 : Int) < (sizeP L : Int) - ((offL L (i + 1) : Int) - (offL L i : Int)) + (ne : Int)) = true := by simp; omega
        clear hr hF hl hp hpf hb hpi HFst hne hchg hgd h5
        generalize hk0 : offL L i = k at *
        generalize hk1 : offL L (i + 1) = k' at *
        generalize sizeP L = sz at *
        clear hk0 hk1
        have hkk : k ≤ k' := by omega
        have hoff' : k' ≤ k + 65550 := by omega
        clear hoff hei
        go_enter Tryz.func165, Tryz.ntmps165
        go_wp2_with fail
        refine HG.out.mono ?_
        rintro e w' ⟨rfl, rfl⟩
        go_wp2_with fail
        refine HP.out.mono ?_
        rintro e w' ⟨rfl, rfl⟩
        go_wp2_with fail
        refine HSk.out.mono ?_
        rintro e w1 ⟨rfl, b1⟩
        have B1 := Lib.hid b1
        clear b1
        go_wp2_with fail
        refine (HE.out _ B1.out).mono ?_
        rintro e w2 ⟨v1, rfl, s1, b2⟩
        obtain ⟨a1, cp1, rfl, _⟩ := s1.arg
        have B2 := Lib.hid (B1.out.trans (b2.mono B1.out.size))
        clear s1 b2 HE
        go_wp2_with fail
        refine (HNx.out _ B2.out).mono ?_
        rintro e w3 ⟨rfl, b3⟩
        have B3 := Lib.hid (B2.out.trans (b3.mono B2.out.size))
        have c03 := (B3.out.cell (p := ⟨p, 0, none⟩) hpl).trans c0
        clear b3
        go_wp2_with fail
        go_ret
        exact ⟨rfl, (HFst2.out _ B3.out).2, (HFst2.out _ B3.out).1⟩
      · have hp : setP L a s = (0, L.take i ++ [s] ++ L.drop (i + 1)) := by rw [hpf, if_neg h3, if_neg h5]
        rw [hp]
        have hd5 : decide ((1073741824 : Int) < (sizeP L : Int) - ((offL L (i + 1) : Int) - (offL L i : Int)) + (ne : Int)) = false := by simp; omega
        have okk := ok_set hr.ok hi (s := s) (by omega) (by rw [hne]; omega)
        have HCh := Lib.hid (fun w' (hb : Below w.heap.size w w') => change_row (hchg w' hb) i (i + 1) (by omega) (by omega) [s] okk)
        have HFin := Lib.hid (show ∀ w' w'' , Below w.heap.size w w' → (∃ cap' cur', PackRow w'' p w'.heap.size cap' cur' (L.take i ++ [s] ++ L.drop (i + 1))) → Chg (fun k => k = p) w' w'' → (∃ F', PackF w'' p F' (L.take i ++ [s] ++ L.drop (i + 1)) ∧ Fresh w F F') ∧ Chg F w w'' from fun w' w'' hb ⟨cap', cur', hr'⟩ hc =>
          ⟨⟨fun k => k = p ∨ k = w'.heap.size, ⟨_, cap', cur', hr', fun k => Iff.rfl⟩, fun k hk => hk.imp (fun e => (hF k).2 (.inl e)) fun e => by have := hb.size; omega⟩,
            (Chg.of_below F hb).trans hc fun k hk _ => (hF k).2 (.inl hk)⟩)
        have HO := Lib.hid (And.intro hb1 hne)
        have HTl := Lib.hid (show (L.take i ++ [s] ++ L.drop (i + 1)).length = L.length by simp; omega)
        clear hr hF hl hp hpf hb hpi HFst hne hchg hgd h5 okk hb1
        generalize hk0 : offL L i = k at *
        generalize hk1 : offL L (i + 1) = k' at *
        generalize sizeP L = sz at *
        clear hk0 hk1
        have hkk : k ≤ k' := by omega
        have hoff' : k' ≤ k + 65550 := by omega
        clear hoff hei
        go_enter Tryz.func165, Tryz.ntmps165
        go_wp2_with fail
        refine HG.out.mono ?_
        rintro e w' ⟨rfl, rfl⟩
        go_wp2_with fail
        refine HP.out.mono ?_
        rintro e w' ⟨rfl, rfl⟩
        go_wp2_with fail
        refine HSk.out.mono ?_
        rintro e w1 ⟨rfl, b1⟩
        have B1 := Lib.hid b1
        clear b1
        go_wp2_with fail
        refine (HE.out _ B1.out).mono ?_
        rintro e w2 ⟨v1, rfl, s1, b2⟩
        obtain ⟨a1, cp1, rfl, hargs⟩ := s1.arg
        have B2 := Lib.hid (B1.out.trans (b2.mono B1.out.size))
        have S1 := Lib.hid s1
        have hcp1 := hargs.1
        clear s1 b2 HE hargs
        go_wp2_with fail
        refine (HNx.out _ B2.out).mono ?_
        rintro e w3 ⟨rfl, b3⟩
        have B3 := Lib.hid (B2.out.trans (b3.mono B2.out.size))
        have c03 := (B3.out.cell (p := ⟨p, 0, none⟩) hpl).trans c0
        have HC2 := Lib.hid (HCh.out w3 B3.out a1 ne cp1 hcp1 (by rw [HO.out.1, HO.out.2]) (by
          obtain ⟨b, o, e, hc⟩ := (S1.out.below b3).arg_bytes (by omega)
          cases e
          exact .inr ⟨b, o, rfl, by rw [HO.out.1]; exact hc⟩) 0 (by rw [HTl.out]; simp))
        clear b3
        go_wp2_with fail
        refine HC2.out.mono ?_
        rintro e w4 ⟨rfl, hr3, c3⟩
        have HF3 := Lib.hid (HFin.out w3 w4 B3.out hr3 c3)
        clear hr3 c3
        go_wp2_with fail
        go_ret
        exact ⟨rfl, HF3.out.1, HF3.out.2⟩
def delP (L : List ByteArray) (a n : Int) : Int × List ByteArray :=
  if a < 0 ∨ (L.length : Int) < a ∨ n < 0 ∨ (L.length : Int) - a < n then (1, L) else (0, L.take a.toNat ++ L.drop (a.toNat + n.toNat))
theorem ok_del {L : List ByteArray} (h : OKL L) {i j : Nat} (hij : i ≤ j) (hj : j ≤ L.length) : OKL (L.take i ++ [] ++ L.drop j) := by
  have h1 := sizeP_cut (L := L) (M := []) hij hj
  have h3 := offL_mono (L := L) hij
  rw [bodyL_nil, List.length_nil] at h1
  have hz := h.size
  have hm := h.many
  refine ⟨by omega, by simp; omega, fun x hx => ?_⟩
  simp only [List.append_nil, List.mem_append] at hx
  rcases hx with hx | hx
  · exact h.each _ (List.mem_of_mem_take hx)
  · exact h.each _ (List.mem_of_mem_drop hx)
set_option maxHeartbeats 1600000 in
set_option maxRecDepth 100000 in
theorem packDelete {w : World} {p : Nat} {F : Nat → Prop} {L : List ByteArray} (h : PackF w p F L) (hl : Laid w) (a n : Int) (ha : -9223372036854775808 ≤ a ∧ a ≤ 9223372036854775807) (hn : -9223372036854775808 ≤ n ∧ n ≤ 9223372036854775807) :
    Calls Tryz.prog 105 #[.pointer (some ⟨p, 0, none⟩), .int .i64 a, .int .i64 n] w fun e w' => e = .returned (.int .i64 (delP L a n).1) ∧ (∃ F', PackF w' p F' (delP L a n).2 ∧ Fresh w F F') ∧ Chg F w w' := by
  obtain ⟨g, cap, cur, hr, hF⟩ := h
  have HFst := Lib.hid (show Chg F w w ∧ ∃ F', PackF w p F' L ∧ Fresh w F F' from ⟨Chg.refl _ _, F, ⟨g, cap, cur, hr, hF⟩, fun k hk => .inl hk⟩)
  have HG := Lib.hid (gone_row hr.cell0)
  have HL := Lib.hid (plen_row hr)
  have hmany := hr.ok.many
  by_cases h1 : a < 0 ∨ (L.length : Int) < a ∨ n < 0 ∨ (L.length : Int) - a < n
  · have hp : delP L a n = (1, L) := by unfold delP; rw [if_pos h1]
    rw [hp]
    clear hr hF hl hp
    by_cases h0 : a < 0
    · have hd : decide (a < 0) = true := by simp; omega
      clear h1
      go_enter Tryz.func105, Tryz.ntmps105
      go_wp2_with fail
      refine HG.out.mono ?_
      rintro e w' ⟨rfl, rfl⟩
      go_wp2_with fail
      go_ret
      exact ⟨rfl, HFst.out.2, HFst.out.1⟩
    · have hd : decide (a < 0) = false := by simp; omega
      by_cases h2 : (L.length : Int) < a
      · have hd2 : decide ((L.length : Int) < a) = true := by simp; omega
        clear h1
        go_enter Tryz.func105, Tryz.ntmps105
        go_wp2_with fail
        refine HG.out.mono ?_
        rintro e w' ⟨rfl, rfl⟩
        go_wp2_with fail
        refine HL.out.mono ?_
        rintro e w' ⟨rfl, rfl⟩
        go_wp2_with fail
        go_ret
        exact ⟨rfl, HFst.out.2, HFst.out.1⟩
      · have hd2 : decide ((L.length : Int) < a) = false := by simp; omega
        by_cases h3 : n < 0
        · have hd3 : decide (n < 0) = true := by simp; omega
          clear h1
          go_enter Tryz.func105, Tryz.ntmps105
          go_wp2_with fail
          refine HG.out.mono ?_
          rintro e w' ⟨rfl, rfl⟩
          go_wp2_with fail
          refine HL.out.mono ?_
          rintro e w' ⟨rfl, rfl⟩
          go_wp2_with fail
          go_ret
          exact ⟨rfl, HFst.out.2, HFst.out.1⟩
        · have hd3 : decide (n < 0) = false := by simp; omega
          have hd4 : decide ((L.length : Int) - a < n) = true := by simp; omega
          clear h1
          go_enter Tryz.func105, Tryz.ntmps105
          go_wp2_with fail
          refine HG.out.mono ?_
          rintro e w' ⟨rfl, rfl⟩
          go_wp2_with fail
          refine HL.out.mono ?_
          rintro e w' ⟨rfl, rfl⟩
          go_wp2_with fail
          refine HL.out.mono ?_
          rintro e w' ⟨rfl, rfl⟩
          go_wp2_with fail
          go_ret
          exact ⟨rfl, HFst.out.2, HFst.out.1⟩
  · obtain ⟨i, rfl⟩ : ∃ i : Nat, a = (i : Int) := ⟨a.toNat, by omega⟩
    obtain ⟨m, rfl⟩ : ∃ m : Nat, n = (m : Int) := ⟨n.toNat, by omega⟩
    have hil : i ≤ L.length := by omega
    have him : i + m ≤ L.length := by omega
    have hp : delP L i m = (0, L.take i ++ [] ++ L.drop (i + m)) := by unfold delP; rw [if_neg h1]; simp
    rw [hp]
    have hd2 : decide (L.length < i) = false := by simp [hil]
    have hd4 : decide ((L.length : Int) - (i : Int) < (m : Int)) = false := by simp; omega
    have okk := ok_del hr.ok (show i ≤ i + m by omega) him
    have hchg : ∀ w', Below w.heap.size w w' → PackRow w' p g cap cur L := fun w' hb => hr.chg (Chg.of_below (fun _ => False) hb) id id
    have HS1 := Lib.hid (seek_row hr hl hil)
    have HS2 := Lib.hid (fun w' (hb : Below w.heap.size w w') => seek_row (hchg w' hb) (hl.below hb) him)
    have HCh := Lib.hid (fun w' (hb : Below w.heap.size w w') => change_row (hchg w' hb) i (i + m) (by omega) him [] okk none 0 0 (Nat.le_refl _) rfl (.inl rfl) (-(m : Int)) (by simp; omega))
    have HFin := Lib.hid (show ∀ w' w'' , Below w.heap.size w w' → (∃ cap' cur', PackRow w'' p w'.heap.size cap' cur' (L.take i ++ [] ++ L.drop (i + m))) → Chg (fun k => k = p) w' w'' → (∃ F', PackF w'' p F' (L.take i ++ [] ++ L.drop (i + m)) ∧ Fresh w F F') ∧ Chg F w w'' from fun w' w'' hb ⟨cap', cur', hr'⟩ hc =>
      ⟨⟨fun k => k = p ∨ k = w'.heap.size, ⟨_, cap', cur', hr', fun k => Iff.rfl⟩, fun k hk => hk.imp (fun e => (hF k).2 (.inl e)) fun e => by have := hb.size; omega⟩,
        (Chg.of_below F hb).trans hc fun k hk _ => (hF k).2 (.inl hk)⟩)
    clear hr hF hl hp h1 HFst okk hchg
    generalize offL L i = k at *
    generalize offL L (i + m) = k' at *
    go_enter Tryz.func105, Tryz.ntmps105
    go_wp2_with fail
    refine HG.out.mono ?_
    rintro e w' ⟨rfl, rfl⟩
    go_wp2_with fail
    refine HL.out.mono ?_
    rintro e w' ⟨rfl, rfl⟩
    go_wp2_with fail
    refine HL.out.mono ?_
    rintro e w' ⟨rfl, rfl⟩
    go_wp2_with fail
    refine HS1.out.mono ?_
    rintro e w1 ⟨rfl, b1⟩
    have B1 := Lib.hid b1
    clear b1
    go_wp2_with fail
    refine (HS2.out _ B1.out).mono ?_
    rintro e w2 ⟨rfl, b2⟩
    have B2 := Lib.hid (B1.out.trans (b2.mono B1.out.size))
    clear b2
    go_wp2_with fail
    refine (HCh.out _ B2.out).mono ?_
    rintro e w3 ⟨rfl, hr3, c3⟩
    have HF3 := Lib.hid (HFin.out w2 w3 B2.out hr3 c3)
    clear hr3 c3
    go_wp2_with fail
    go_ret
    exact ⟨rfl, HF3.out.1, HF3.out.2⟩
section
variable {w : World} {p : Nat} {F : Nat → Prop} {L : List ByteArray}
theorem packLen (h : PackF w p F L) : Calls Tryz.prog 96 #[.pointer (some ⟨p, 0, none⟩)] w fun e w' => e = .returned (.int .i64 L.length) ∧ w = w' := by
  obtain ⟨g, cap, cur, hr, hF⟩ := h; exact plen_row hr
theorem packGet (h : PackF w p F L) (hl : Laid w) (a : Int) (ha : -9223372036854775808 ≤ a ∧ a ≤ 9223372036854775807) : Calls Tryz.prog 164 #[.pointer (some ⟨p, 0, none⟩), .int .i64 a] w fun e w' => e = .returned (getV L a) ∧ Below w.heap.size w w' := by
  obtain ⟨g, cap, cur, hr, hF⟩ := h; exact get_row hr hl a ha
end
end Go.Proofs.YtlecnlnpgghmbaaGreatDoor

/- pack.All: the iterator. -/
namespace Go.Proofs.YtlecnlnpgghmbaaGreatDoor
set_option linter.unusedVariables false
set_option linter.unusedSimpArgs false
open Go.RowKit Go.Shelf
attribute [local go_sem] Oper.semAt_some
/-- The texts with their places. -/
def toldP (L : List ByteArray) : List (Nat × ByteArray) := (List.range L.length).map fun i => (i, L.getD i ByteArray.empty)
@[simp] theorem toldP_length (L : List ByteArray) : (toldP L).length = L.length := by simp [toldP]
theorem toldP_take {L : List ByteArray} {k : Nat} (h : k < L.length) : (toldP L).take (k + 1) = (toldP L).take k ++ [(k, L[k])] := by
  rw [List.take_succ_eq_append_getElem (by simpa using h)]
  simp [toldP, List.getD, h]
def encP (x : Nat × ByteArray) : Array Value := #[.int .i64 x.1, .string x.2]
/-- What a round of a loop over All keeps: what lies below N; the piece in block g; the heads that are made behind n1. -/
structure KeepP (N n1 g : Nat) (W W' : World) : Prop where
  below : Below N W W'
  size : W.heap.size ≤ W'.heap.size
  piece : ∀ (cs : Array Value) (fz : Nat × Nat), W.heap[g]? = some (.cells cs 5 fz) → W'.heap[g]? = some (.cells cs 5 fz)
  heads : ∀ (k : Nat) (cs : Array Value) (fz : Nat × Nat), n1 ≤ k → W.heap[k]? = some (.cells cs 151 fz) → W'.heap[k]? = some (.cells cs 151 fz)
theorem KeepP.trans {N n1 g : Nat} {A B C : World} (h : KeepP N n1 g A B) (k : KeepP N n1 g B C) : KeepP N n1 g A C :=
  ⟨h.below.trans k.below, Nat.le_trans h.size k.size, fun cs fz e => k.piece cs fz (h.piece cs fz e), fun i cs fz hi e => k.heads i cs fz hi (h.heads i cs fz hi e)⟩
theorem KeepP.putObj {N n1 g : Nat} (W : World) (l : Nat) (o o' : Obj) (hN : N ≤ l) (h : W.heap[l]? = some o) (ho : o.isCells = false) : KeepP N n1 g W (W.putObj l o') := by
  have hk : ∀ (k : Nat) (cs : Array Value) (E : TypeId) (fz : Nat × Nat), W.heap[k]? = some (.cells cs E fz) → (W.putObj l o').heap[k]? = some (.cells cs E fz) := fun k cs E fz hk => by
    by_cases e : k = l
    · subst e; rw [h] at hk; cases hk; cases ho
    · exact (World.putObj_heap_other e).trans hk
  exact ⟨(Below.refl N W).grown (grownBy_putObj' W l o') (by have := heap_lt h; omega) (fun k e => by cases e; omega), by simp, fun cs fz e => hk g cs _ fz e, fun k cs fz _ e => hk k cs _ fz e⟩
theorem KeepP.of_below {N n1 g : Nat} {W W' : World} (h : Below W.heap.size W W') (hN : N ≤ W.heap.size) : KeepP N n1 g W W' :=
  ⟨h.mono hN, h.size, fun cs fz e => by rw [h.block g (heap_lt e)]; exact e, fun k cs fz _ e => by rw [h.block k (heap_lt e)]; exact e⟩
theorem packAll (w : World) (p : Nat) : Calls Tryz.prog 104 #[.pointer (some ⟨p, 0, none⟩)] w fun e w' => e = .returned (.func (.func 110) #[] #[.pointer (some ⟨w.heap.size, 0, none⟩)]) ∧
    w' = w.alloc (.cells #[.pointer (some ⟨p, 0, none⟩)] 79) := by
  go_enter Tryz.func104, Tryz.ntmps104
  go_wp2_with fail
  go_ret
  exact ⟨rfl, rfl⟩
theorem grown_of' {W W' : World} (h : Below W.heap.size W W') : W.grownBy W' none := ⟨h.os, h.tape, h.output, h.size, fun k hk _ => h.block k hk⟩
theorem PackRow.keep {w w' : World} {p g cap : Nat} {cur : Array Value} {L : List ByteArray} {N n1 : Nat} (h : PackRow w p g cap cur L) (hk : KeepP N n1 g w w') (hp : n1 ≤ p) : PackRow w' p g cap cur L := by
  refine { h with head := hk.heads p _ _ hp h.head, row := ?_ }
  obtain ⟨fz, h1, h2⟩ := h.row
  exact ⟨fz, h1, hk.piece _ _ h2⟩
set_option maxHeartbeats 6400000 in
set_option maxRecDepth 100000 in
theorem packIter1 {w0 W : World} {N n1 p bp g cap l : Nat} {cur : Array Value} {L : List ByteArray} (hl : Laid w0) (hw0 : w0.heap.size = N) (hb0 : Below N w0 W) (hr : PackRow W p g cap cur L) (hbp : W.cell? ⟨bp, 0, none⟩ = some (.pointer (some ⟨p, 0, none⟩))) (hn1 : n1 ≤ W.heap.size) (hNn : N ≤ n1)
    (J Jx : List (Nat × ByteArray) → World → Prop) (hJ : AbidesFrom W.heap.size J) {m : Nat}
    (hY : ∀ pre x W1, J pre W1 → pre ++ [x] <+: toldP L → YieldAt Fence.wide m Tryz.prog l (encP x) W1 fun e W' => (e = .returned (.bool true) ∧ J (pre ++ [x]) W' ∧ KeepP N n1 g W1 W') ∨ (e = .returned (.bool false) ∧ Jx (pre ++ [x]) W'))
    (h0 : J [] W) : Calls Tryz.prog 110 #[.func (.yield l) #[] #[], .pointer (some ⟨bp, 0, none⟩)] W fun e W' => (∃ v, e = .returned v) ∧
      ((∃ xs, xs = toldP L ∧ J xs W') ∨ ∃ pre, pre <+: toldP L ∧ Jx pre W') := by
  have HJ := Lib.hid hJ
  have HY := Lib.hid hY
  have H0 := Lib.hid h0
  have HG := Lib.hid (gone_row hr.cell0)
  have c0 := hr.cell0
  have hr0 := hr
  clear hJ hY h0
  go_enter Tryz.func110, Tryz.ntmps110
  go_wp2_with fail
  refine HG.out.mono ?_
  rintro e w' ⟨rfl, rfl⟩
  go_wp2_with fail
  obtain ⟨w1, hw1⟩ : ∃ w1, w1 = W.alloc (.cells #[.slice (some ⟨g, 0, none⟩) (sizeP L) cap] 151) := ⟨_, rfl⟩
  rw [← hw1]
  have hb1 : Below W.heap.size W w1 := by rw [hw1]; exact (Below.refl _ _).alloc (Nat.le_refl _) _
  have hr1 : PackRow w1 W.heap.size g cap cur L := { hr0 with head := by rw [hw1]; exact heap_new _ _, row := by rw [hw1]; exact hr0.row.old _ }
  have hJ1 : J [] w1 := HJ.out [] W _ none H0.out (grown_of' hb1) (fun r e => by cases e)
  have HQ := Lib.hid (And.intro hr1 (And.intro hJ1 (And.intro (show Below N w0 w1 from hb0.trans (hb1.mono (by omega))) hb1.size)))
  have HLd := Lib.hid (show ∀ w', Below N w0 w' → Laid w' from fun w' hb => hl.below (by rw [hw0]; exact hb))
  have hmany := hr0.ok.many
  have hle := hr0.le
  have hsz := hr0.ok.size
  have hcm := hr0.capm
  unfold maxLen at hcm
  obtain ⟨qb, hqb⟩ : ∃ qb, W.heap.size = qb := ⟨_, rfl⟩
  rw [hqb] at HQ ⊢
  have HNq := Lib.hid (show N ≤ qb ∧ n1 ≤ qb by omega)
  have HJ2 := Lib.hid (show ∀ pre w2 w3, qb ≤ w2.heap.size → J pre w2 → Below w2.heap.size w2 w3 → J pre w3 from fun pre w2 w3 hq h hb => HJ.out pre w2 w3 none h (grown_of' hb) (fun r e => by cases e))
  clear hw1 hb1 hr1 hJ1 hr hr0 hb0 hl hw0 hbp c0 hn1 hNn HJ H0 HG hqb
  go_loopw [4, 5] (fun i a wr => ∃ k : Nat, k ≤ L.length ∧ i = .int .i64 k ∧ a = .int .i64 (offL L k) ∧ Hid (J ((toldP L).take k) wr ∧ PackRow wr qb g cap cur L ∧ Below N w0 wr ∧ qb ≤ wr.heap.size)) (fun i _ _ => L.length - (intOf i).toNat)
  case atStart => exact ⟨0, Nat.zero_le _, rfl, by rw [offL_zero]; rfl, Lib.hid ⟨HQ.out.2.1, HQ.out.1, HQ.out.2.2⟩⟩
  case round =>
    obtain ⟨k, hk, rfl, rfl, hI⟩ := hrel
    have HL := Lib.hid (plen_row hI.out.2.1)
    have hq0 := hI.out.2.1.cell0
    by_cases hlt : k < L.length
    · have hoff := offL_succ hlt
      have hofl := (offL_lt L (k + 1)).2
      have hei := entL_length L[k] (by have := hI.out.2.1.ok.small hlt; omega)
      have hkc : ¬ cap = offL L k := by omega
      have hkle : offL L k ≤ sizeP L := by omega
      have HRd := Lib.hid (read_row hI.out.2.1 (HLd.out wr hI.out.2.2.1) hlt)
      have HSt := Lib.hid (show ∀ w2, Below wr.heap.size wr w2 → J ((toldP L).take k) w2 ∧ PackRow w2 qb g cap cur L ∧ Below N w0 w2 ∧ qb ≤ w2.heap.size from fun w2 hb =>
        ⟨HJ2.out _ _ _ hI.out.2.2.2 hI.out.1 hb, hI.out.2.1.chg (Chg.of_below (fun _ => False) hb) id id, hI.out.2.2.1.trans (hb.mono (by have := HNq.out; have := hI.out.2.2.2; omega)), Nat.le_trans hI.out.2.2.2 hb.size⟩)
      have HYk := Lib.hid (fun W1 (hj : J ((toldP L).take k) W1) => HY.out ((toldP L).take k) (k, L[k]) W1 hj (by rw [← toldP_take hlt]; exact List.take_prefix _ _))
      have HNx := Lib.hid (fun W1 (h1 : PackRow W1 qb g cap cur L) (h2 : Below N w0 W1) => next_row h1 (HLd.out W1 h2) hlt)
      have HTk := Lib.hid (toldP_take hlt)
      obtain ⟨x, hx⟩ : ∃ x, L[k] = x := ⟨_, rfl⟩
      rw [hx] at HRd HYk HTk
      rw [← HTk.out] at HYk
      clear hx hoff hei HY
      go_wp2_with fail
      refine HL.out.mono ?_
      rintro e w' ⟨rfl, rfl⟩
      go_wp2_with fail
      refine HRd.out.mono ?_
      rintro e w2 ⟨rfl, b2⟩
      have HS2 := Lib.hid (HSt.out w2 b2)
      obtain ⟨fn, tmps, assign, body, hy, hR⟩ := HYk.out w2 HS2.out.1
      have HR := Lib.hid hR
      dsimp only [encP] at hy
      clear b2 hR HSt HRd hI HYk hq0
      go_upto_region 6 with (fail)
      refine (wpIn_wide (n := m + 1)).1 ?_
      gi_wp2
      refine HR.out.mono ?_
      rintro e w3 (⟨rfl, hJ3, hk3⟩ | ⟨rfl, hx3⟩)
      · have HS3 := Lib.hid (And.intro hJ3 (And.intro (HS2.out.2.1.keep hk3 HNq.out.2) (And.intro (HS2.out.2.2.1.trans hk3.below) (Nat.le_trans HS2.out.2.2.2 hk3.size))))
        have HN3 := Lib.hid (HNx.out w3 HS3.out.2.1 HS3.out.2.2.1)
        clear hJ3 hk3 HR hy
        gi_wp2
        go_wp2_with fail
        refine HN3.out.mono ?_
        rintro e w4 ⟨rfl, b4⟩
        have HS4 := Lib.hid (show J ((toldP L).take (k + 1)) w4 ∧ PackRow w4 qb g cap cur L ∧ Below N w0 w4 ∧ qb ≤ w4.heap.size from
          ⟨HJ2.out _ _ _ HS3.out.2.2.2 HS3.out.1 b4, HS3.out.2.1.chg (Chg.of_below (fun _ => False) b4) id id, HS3.out.2.2.1.trans (b4.mono (by have := HNq.out; have := HS3.out.2.2.2; omega)), Nat.le_trans HS3.out.2.2.2 b4.size⟩)
        clear b4
        go_wp2_with fail
        go_roundw
        case rel => exact ⟨k + 1, by omega, by go_num, rfl, HS4⟩
        case measure => simp [intOf]; omega
      · have HJ6 := Lib.hid hx3
        clear hx3 HR hy
        gi_wp2
        go_wp2_with fail
        refine bodyPost_ret (results_none rfl _ _ _) rfl ?_
        exact ⟨⟨_, rfl⟩, .inr ⟨_, List.take_prefix _ _, HJ6.out⟩⟩
    · have hkn : k = L.length := by omega
      subst hkn
      have HJ6 := Lib.hid hI.out.1
      rw [List.take_of_length_le (by simp)] at HJ6
      clear hI hq0
      go_wp2_with fail
      refine HL.out.mono ?_
      rintro e w' ⟨rfl, rfl⟩
      go_wp2_with fail
      go_end0
      exact ⟨⟨_, rfl⟩, .inl ⟨_, rfl, HJ6.out⟩⟩
end Go.Proofs.YtlecnlnpgghmbaaGreatDoor

/- pack.Find. -/
namespace Go.Proofs.YtlecnlnpgghmbaaGreatDoor
set_option linter.unusedVariables false
set_option linter.unusedSimpArgs false
open Go.RowKit Go.Shelf
attribute [local go_sem] Oper.semAt_some
theorem pre_ltP {α : Type} {pre l : List α} {x : α} (h : pre ++ [x] <+: l) : pre.length < l.length := by
  have := h.length_le
  simp at this
  omega
theorem prefix_lt {α : Type} {pre l : List α} {x : α} : pre.length < l.length → pre ++ [x] <+: l → True := fun _ _ => trivial
theorem packStops {w0 w : World} {N p bp g cap : Nat} {cur : Array Value} {L : List ByteArray} (hl : Laid w0) (hw0 : w0.heap.size = N) (hb0 : Below N w0 w) (hN : N ≤ w.heap.size) (hr : PackRow w p g cap cur L) (hbp : w.cell? ⟨bp, 0, none⟩ = some (.pointer (some ⟨p, 0, none⟩))) (m : Nat) :
    SeqStopsK Fence.wide m Tryz.prog 110 #[.pointer (some ⟨bp, 0, none⟩)] encP (KeepP N w.heap.size g) (fun xs => xs = toldP L) (fun pre => pre <+: toldP L) (toldP L).length w := by
  intro l J Jx W hW hJ _ hY h0
  refine callsIn_wide.2 (packIter1 hl hw0 (hb0.trans (hW.mono hN)) (hr.chg (Chg.of_below (fun _ => False) hW) id id) ((hW.cell (p := ⟨bp, 0, none⟩) (World.block_lt_of_cell? w _ hbp)).trans hbp) hW.size hN J Jx hJ (fun pre x W1 hj hp => hY pre x W1 hj (pre_ltP hp)) h0)
theorem grown_keepP {W W' : World} {row : Option Nat} (hg : W.grownBy W' row) (hr : ∀ r, row = some r → ∃ o : Obj, W.heap[r]? = some o ∧ o.isCells = false) {k : Nat} {cs : Array Value} {E : TypeId} {fz : Nat × Nat} (hk : W.heap[k]? = some (.cells cs E fz)) : W'.heap[k]? = some (.cells cs E fz) := by
  rw [hg.block k (heap_lt hk) (fun e => by
    obtain ⟨o, ho, hc⟩ := hr k e.symm
    rw [hk] at ho; cases ho; cases hc)]
  exact hk
theorem grown_belowP {W W' w : World} {row : Option Nat} {n₀ B : Nat} (hb : Below n₀ w W) (hg : W.grownBy W' row) (hr : ∀ r, row = some r → B ≤ r) (hn : n₀ ≤ B) (hs : n₀ ≤ W.heap.size) : Below n₀ w W' :=
  hb.trans ⟨hg.os, hg.tape, hg.output, hg.size, fun k hk => hg.block k (by omega) fun e => by have := hr k e.symm; omega⟩
theorem keepsFrom_ofP {W W' : World} {S : Nat → Prop} (B : Nat) (h : Chg S W W') (hs : ∀ k, S k → ∀ o, W.heap[k]? = some o → o.isCells = true) : KeepsFrom B W W' :=
  ⟨h.size, fun k o _ hk ho => h.keep hk fun hS => by rw [hs k hS o hk] at ho; cases ho⟩
/-- Is it the one that is sought? -/
def hitP (s : ByteArray) (a e : Int) (x : Nat × ByteArray) : Bool := decide (a ≤ (x.1 : Int)) && ((Int.tmod (wrap64 ((x.1 : Int) - a)) e == 0) && (x.2.toList == s.toList))
def findP (L : List ByteArray) (s : ByteArray) (a e : Int) : Int := if a < 0 ∨ e < 1 then -1 else match (toldP L).find? (hitP s a e) with
  | some x => x.1
  | none => -1
/-- Between two rounds. -/
structure FindI (w : World) (n0 bs : Nat) (s : ByteArray) (a e : Int) (pre : List (Nat × ByteArray)) (W : World) : Prop where
  below : Below n0 w W
  size : n0 ≤ W.heap.size
  b0 : W.heap[bs]? = some (.cells #[.string s] 9 (0, 0))
  b1 : W.heap[bs + 1]? = some (.cells #[.int .i64 a] 3 (0, 0))
  b2 : W.heap[bs + 1 + 1]? = some (.cells #[.int .i64 e] 3 (0, 0))
  b3 : W.heap[bs + 1 + 1 + 1]? = some (.cells #[.int .i64 0] 3 (0, 0))
  none : pre.find? (hitP s a e) = none
theorem FindI.own (w : World) (n0 bs : Nat) (s : ByteArray) (a e : Int) (B : Nat) (hB : n0 ≤ B) : OwnFrom B (FindI w n0 bs s a e) := by
  rintro pre W W' row h hg hr
  exact ⟨grown_belowP h.below hg (fun r e => (hr r e).1) hB h.size, Nat.le_trans h.size hg.size, grown_keepP hg (fun r e => (hr r e).2) h.b0, grown_keepP hg (fun r e => (hr r e).2) h.b1, grown_keepP hg (fun r e => (hr r e).2) h.b2, grown_keepP hg (fun r e => (hr r e).2) h.b3, h.none⟩
/-- Behind the hit. -/
def FindX (w : World) (n0 bs : Nat) (s : ByteArray) (a e : Int) (c : Code) (pre : List (Nat × ByteArray)) (W : World) : Prop :=
  c = .ret ∧ Below n0 w W ∧ n0 ≤ W.heap.size ∧ ∃ x, pre.find? (hitP s a e) = some x ∧ W.heap[bs + 1 + 1 + 1]? = some (.cells #[.int .i64 (x.1 : Nat)] 3 (0, 0))
theorem FindX.own (w : World) (n0 bs : Nat) (s : ByteArray) (a e : Int) (B : Nat) (hB : n0 ≤ B) (c : Code) : OwnFrom B (FindX w n0 bs s a e c) := by
  rintro pre W W' row ⟨h1, h2, h3, x, h4, h5⟩ hg hr
  exact ⟨h1, grown_belowP h2 hg (fun r e => (hr r e).1) hB h3, Nat.le_trans h3 hg.size, x, h4, grown_keepP hg (fun r e => (hr r e).2) h5⟩
end Go.Proofs.YtlecnlnpgghmbaaGreatDoor

/- The laws' helpers on texts: Beyond, TextsSize, SameTexts; opening a slice of texts. -/
namespace Go.Proofs.YtlecnlnpgghmbaaGreatDoor
set_option linter.unusedVariables false
set_option linter.unusedSimpArgs false
open Go.RowKit
set_option maxHeartbeats 800000 in
theorem beyond_any (w : World) (a : Option Addr) (len cap : Nat) (zs : List Nat) (hlen : zs.length = len) (ha : ArgRow w a len cap fun i => .int .i64 (zs.getD i 0 : Nat)) (hz : ∀ x ∈ zs, x ≤ 140737488355328) (hm : len ≤ 1000000000) :
    Calls Tryz.prog 5 #[.slice a len cap] w fun e w' => e = .returned (.bool (decide (1048576 < zs.sum))) ∧ w = w' := by
  have HA := Lib.hid ha
  have HL := Lib.hid hlen
  have HZ := Lib.hid hz
  have hlc := ha.1
  clear ha hlen hz
  go_enter Tryz.func5, Tryz.ntmps5
  go_wp2_with fail
  go_loop [3, 4] (fun n i => ∃ k : Nat, k ≤ len ∧ i = .int .i64 k ∧ n = .int .i64 ((zs.take k).sum : Nat) ∧ (zs.take k).sum ≤ 1048576) (fun _ i => len - (intOf i).toNat)
  case atStart => exact ⟨0, Nat.zero_le _, rfl, rfl, by simp⟩
  case round =>
    obtain ⟨k, hk, rfl, rfl, hI⟩ := hrel
    by_cases hlt : k < len
    · obtain ⟨b, o, hb, hc⟩ := HA.out.2.resolve_left (by omega)
      subst hb
      have hcell : w.cell? ⟨b, o + k, none⟩ = some (.int .i64 (zs.getD k 0 : Nat)) := hc k hlt
      have hkl : k < zs.length := by rw [HL.out]; exact hlt
      have htk : (zs.take (k + 1)).sum = (zs.take k).sum + zs.getD k 0 := by rw [List.take_succ_eq_append_getElem hkl, List.sum_append, List.sum_cons, List.sum_nil]; simp [List.getD, hkl]
      have hzk := HZ.out (zs.getD k 0) (by simp [List.getD, hkl])
      have htot : (zs.take (k + 1)).sum ≤ zs.sum := by
        have := congrArg List.sum (List.take_append_drop (k + 1) zs)
        rw [List.sum_append] at this
        omega
      have HT := Lib.hid (And.intro htk htot)
      clear htk htot hc
      generalize zs.getD k 0 = y at *
      generalize (zs.take k).sum = q at *
      by_cases hgt : 1048576 < q + y
      · have e1 : decide ((1048576 : Int) < (q : Int) + (y : Int)) = true := by simp; omega
        have hr : decide (1048576 < zs.sum) = true := by have := HT.out; simp; omega
        have HR := Lib.hid hr
        clear hr
        go_wp2_with fail
        go_ret
        exact ⟨ret1 (by rw [HR.out]; rfl), rfl⟩
      · have e1 : decide ((1048576 : Int) < (q : Int) + (y : Int)) = false := by simp; omega
        go_wp2_with fail
        go_round
        case rel => exact ⟨k + 1, by omega, by go_num, by rw [HT.out.1]; go_num, by rw [HT.out.1]; omega⟩
        case measure => simp [intOf]; omega
    · have : k = len := by omega
      subst this
      have hr : decide (1048576 < zs.sum) = false := by rw [← HL.out, List.take_length] at hI; simp; omega
      have HR := Lib.hid hr
      clear hr
      go_wp2_with fail
      go_ret
      exact ⟨ret1 (by rw [HR.out]; rfl), rfl⟩

theorem ArgRow.belowT {w w' : World} {a : Option Addr} {n c : Nat} {f : Nat → Value} (h : ArgRow w a n c f) (hb : Below w.heap.size w w') : ArgRow w' a n c f := by
  refine ⟨h.1, h.2.imp id ?_⟩
  rintro ⟨b, o, e, hc⟩
  exact ⟨b, o, e, fun i hi => by rw [hb.cell (World.block_lt_of_cell? w _ (hc i hi))]; exact hc i hi⟩
/-- How much texts have in them. -/
def totalT (zs : List ByteArray) : Nat := zs.length + (zs.map ByteArray.size).sum
theorem total_take (zs : List ByteArray) (k : Nat) : ((zs.take k).map ByteArray.size).sum ≤ (zs.map ByteArray.size).sum := by
  have := congrArg (fun l => (l.map ByteArray.size).sum) (List.take_append_drop k zs)
  simp only [List.map_append, List.sum_append] at this
  omega
theorem total_mem {zs : List ByteArray} {s : ByteArray} (h : s ∈ zs) : s.size + zs.length ≤ totalT zs := by
  unfold totalT
  have : s.size ≤ (zs.map ByteArray.size).sum := by
    induction zs with
    | nil => cases h
    | cons z zs ih =>
      simp only [List.map_cons, List.sum_cons]
      rcases List.mem_cons.1 h with rfl | h
      · omega
      · have := ih h; omega
  omega
set_option maxHeartbeats 800000 in
theorem textsSize_any (w : World) (a : Option Addr) (len cap : Nat) (zs : List ByteArray) (hlen : zs.length = len) (ha : ArgRow w a len cap fun i => .string (zs.getD i ByteArray.empty)) (ht : totalT zs ≤ 1048576) :
    Calls Tryz.prog 6 #[.slice a len cap] w fun e w' => e = .returned (.int .i64 (totalT zs)) ∧ w = w' := by
  have HA := Lib.hid ha
  have HL := Lib.hid hlen
  have hlc := ha.1
  have HT := Lib.hid (show ∀ k, len + ((zs.take k).map ByteArray.size).sum ≤ 1048576 from fun k => by have := total_take zs k; unfold totalT at ht; omega)
  have hln : len ≤ 1048576 := by unfold totalT at ht; omega
  have HF := Lib.hid (show totalT zs = len + ((zs.take len).map ByteArray.size).sum by unfold totalT; rw [List.take_of_length_le (by omega), hlen])
  clear ha hlen ht
  go_enter Tryz.func6, Tryz.ntmps6
  go_wp2_with fail
  go_loop [3, 4] (fun n i => ∃ k : Nat, k ≤ len ∧ i = .int .i64 k ∧ n = .int .i64 ((len + ((zs.take k).map ByteArray.size).sum : Nat) : Int)) (fun _ i => len - (intOf i).toNat)
  case atStart => exact ⟨0, Nat.zero_le _, rfl, by simp⟩
  case round =>
    obtain ⟨k, hk, rfl, rfl⟩ := hrel
    have hT := HT.out k
    by_cases hlt : k < len
    · obtain ⟨b, o, hb, hc⟩ := HA.out.2.resolve_left (by omega)
      subst hb
      have hcell : w.cell? ⟨b, o + k, none⟩ = some (.string (zs.getD k ByteArray.empty)) := hc k hlt
      have hkl : k < zs.length := by rw [HL.out]; exact hlt
      have HN := Lib.hid (show len + ((zs.take (k + 1)).map ByteArray.size).sum = len + ((zs.take k).map ByteArray.size).sum + (zs.getD k ByteArray.empty).size by
        have e : zs.getD k ByteArray.empty = zs[k] := by simp [List.getD, hkl]
        rw [List.take_succ_eq_append_getElem hkl, List.map_append, List.sum_append, List.map_cons, List.map_nil, List.sum_cons, List.sum_nil, e]; omega)
      have hT1 := HT.out (k + 1)
      rw [HN.out] at hT1
      clear hc
      generalize zs.getD k ByteArray.empty = y at *
      generalize hq : len + ((zs.take k).map ByteArray.size).sum = q at *
      have hd : decide ((q : Int) ≤ 1048576) = true := by simp; omega
      clear hq
      go_wp2_with fail
      go_round
      case rel => exact ⟨k + 1, by omega, by go_num, by rw [HN.out]; go_num⟩
      case measure => simp [intOf]; omega
    · obtain rfl : k = len := by omega
      generalize hq : k + ((zs.take k).map ByteArray.size).sum = q at *
      go_wp2_with fail
      go_ret
      exact ⟨ret1 (by rw [HF.out, ← hq]; rfl), rfl⟩
set_option maxHeartbeats 1600000 in
set_option maxRecDepth 100000 in
theorem sameTexts_any (w : World) (a b : Option Addr) (n m ca cb : Nat) (xs ys : List ByteArray) (hn : xs.length = n) (hm : ys.length = m) (ha : ArgRow w a n ca fun i => .string (xs.getD i ByteArray.empty)) (hb : ArgRow w b m cb fun i => .string (ys.getD i ByteArray.empty)) (hs : n ≤ 1000000000 ∧ m ≤ 1000000000) :
    Calls Tryz.prog 16 #[.slice a n ca, .slice b m cb] w fun e w' => e = .returned (.bool (decide (xs = ys))) ∧ ∃ k, w' = w.drewN k := by
  have HA := Lib.hid ha
  have HB := Lib.hid hb
  have hac := ha.1
  have hbc := hb.1
  clear ha hb
  by_cases hnm : n = m
  · subst hnm
    have HL := Lib.hid (And.intro hn hm)
    have hne : ((n : Int) != (n : Int)) = false := by simp
    obtain ⟨r, hr⟩ : ∃ r, decide (xs = ys) = r := ⟨_, rfl⟩
    rw [hr]
    have HR := Lib.hid hr
    clear hn hm hr
    go_enter Tryz.func16, Tryz.ntmps16
    go_wp2_with fail
    go_loopw [5] (fun i wr => ∃ k : Nat, k ≤ n ∧ i = .int .i64 k ∧ (∃ d, wr = w.drewN d) ∧ Hid (xs.take k = ys.take k)) (fun i _ => n - (intOf i).toNat)
    case atStart => exact ⟨0, Nat.zero_le _, rfl, ⟨0, rfl⟩, Lib.hid (by simp)⟩
    case round =>
      obtain ⟨k, hk, rfl, ⟨d, rfl⟩, hI⟩ := hrel
      by_cases hlt : k < n
      · obtain ⟨ab, ao, rfl, hca⟩ := HA.out.2.resolve_left (by omega)
        obtain ⟨bb, bo, rfl, hcb⟩ := HB.out.2.resolve_left (by omega)
        have c1 : (w.drewN d).cell? ⟨ab, ao + k, none⟩ = some (.string (xs.getD k ByteArray.empty)) := hca k hlt
        have c2 : (w.drewN d).cell? ⟨bb, bo + k, none⟩ = some (.string (ys.getD k ByteArray.empty)) := hcb k hlt
        have hkx : k < xs.length := by rw [HL.out.1]; exact hlt
        have hky : k < ys.length := by rw [HL.out.2]; exact hlt
        have HNx := Lib.hid (show xs.getD k ByteArray.empty = ys.getD k ByteArray.empty → xs.take (k + 1) = ys.take (k + 1) from fun h => by
          rw [List.take_succ_eq_append_getElem hkx, List.take_succ_eq_append_getElem hky, hI.out]
          simp only [List.getD, List.getElem?_eq_getElem hkx, List.getElem?_eq_getElem hky, Option.getD_some] at h
          rw [h])
        have HNo := Lib.hid (show xs.getD k ByteArray.empty ≠ ys.getD k ByteArray.empty → r = false from fun h => by
          rw [← HR.out]; exact decide_eq_false (fun e => h (by rw [e])))
        obtain ⟨X1, f, hX1, hf, hF⟩ := classOf (fun x => x.cell? ⟨ab, ao + k, none⟩ = some (.string (xs.getD k ByteArray.empty)) ∧ x.cell? ⟨bb, bo + k, none⟩ = some (.string (ys.getD k ByteArray.empty))) ⟨c1, c2⟩
        have HF := Lib.hid (hF (w.drewN d).drew ⟨c1, c2⟩)
        generalize xs.getD k ByteArray.empty = x at *
        generalize ys.getD k ByteArray.empty = y at *
        have hf1 := fun x => (hf x).1
        have hf2 := fun x => (hf x).2
        clear hF hf hca hcb c1 c2 hI
        by_cases hxy : x = y
        · have hq : (x.toList == y.toList) = true := by rw [hxy]; exact beq_self_eq_true _
          have HXY := Lib.hid (HNx.out hxy)
          clear hxy
          go_wp2_with fail
          refine wp_region_text ⟨[], [], 9⟩ (fun w' => ∃ x : X1, w' = f x) (by kernel_rfl) (by kernel_rfl) HF.out ?_
          refine wpC_seg false (HF.out) 9 0 _ _ (by rfl) (by rfl) ?_
          simp only [List.take_succ_cons, List.take_zero, List.drop_succ_cons, List.drop_zero, Bool.false_eq_true, if_false, Nat.zero_add, Nat.reduceAdd]
          repeat (go_big_quiet_step (fail))
          refine wpQuiet_nil ?_
          refine wpC_nil ?_
          clear hf1 hf2 hX1 HF
          go_wp2_with fail
          go_roundw
          case rel => exact ⟨k + 1, by omega, by go_num, ⟨d + 1, rfl⟩, HXY⟩
          case measure => simp [intOf]; omega
        · have hq : (x.toList == y.toList) = false := by
            rw [beq_eq_false_iff_ne, ne_eq, ByteArray.toList_eq, ByteArray.toList_eq]
            exact fun e => hxy (ByteArray.ext (Array.toList_inj.1 e))
          have HRf := Lib.hid (HNo.out hxy)
          clear hxy
          go_wp2_with fail
          refine wp_region_text ⟨[], [], 9⟩ (fun w' => ∃ x : X1, w' = f x) (by kernel_rfl) (by kernel_rfl) HF.out ?_
          refine wpC_seg false (HF.out) 9 0 _ _ (by rfl) (by rfl) ?_
          simp only [List.take_succ_cons, List.take_zero, List.drop_succ_cons, List.drop_zero, Bool.false_eq_true, if_false, Nat.zero_add, Nat.reduceAdd]
          repeat (go_big_quiet_step (fail))
          refine wpQuiet_nil ?_
          refine wpC_nil ?_
          clear hf1 hf2 hX1 HF
          go_wp2_with fail
          go_ret
          exact ⟨ret1 (by rw [HRf.out]; rfl), d + 1, rfl⟩
      · obtain rfl : k = n := by omega
        have HRt := Lib.hid (show r = true by
          have h := hI.out
          rw [List.take_of_length_le (by have := HL.out.1; omega), List.take_of_length_le (by have := HL.out.2; omega)] at h
          rw [← HR.out]; exact decide_eq_true h)
        clear hI
        go_wp2_with fail
        go_ret
        exact ⟨ret1 (by rw [HRt.out]; rfl), d, rfl⟩
  · have hne : ((n : Int) != (m : Int)) = true := by simp only [bne_iff_ne, ne_eq]; omega
    have hr : decide (xs = ys) = false := decide_eq_false (fun e => hnm (by rw [← hn, ← hm, e]))
    rw [hr]
    go_enter Tryz.func16, Tryz.ntmps16
    go_wp2_with fail
    go_ret
    exact ⟨rfl, 0, rfl⟩
end Go.Proofs.YtlecnlnpgghmbaaGreatDoor

/- The laws of the layer pack: filled, may, alive. -/
-- SOFT
namespace Go.Proofs.YtlecnlnpgghmbaaGreatDoor
set_option linter.unusedVariables false
set_option linter.unusedSimpArgs false
open Go.RowKit
theorem body_le : ∀ (L : List ByteArray), (∀ s ∈ L, s.size ≤ 65536) → (bodyL L).length ≤ 14 * totalT L
  | [], _ => by simp [bodyL]
  | s :: L, h => by
    have h1 := body_le L fun x hx => h x (by simp [hx])
    have h2 := entL_length s (by have := h s (by simp); omega)
    rw [bodyL_cons, List.length_append]
    unfold totalT at *
    simp only [List.length_cons, List.map_cons, List.sum_cons]
    omega
theorem total_le_take (L : List ByteArray) (k : Nat) : totalT (L.take k) ≤ totalT L := by
  have := total_take L k
  unfold totalT
  rw [List.length_take]; omega
theorem okl_of {L : List ByteArray} (h : ∀ s ∈ L, s.size ≤ 65536) (ht : totalT L ≤ 1048576) : OKL L := by
  have := body_le L h
  exact ⟨by unfold sizeP; omega, by unfold totalT at ht; omega, h⟩
def fitsT (zs : List ByteArray) : Bool := decide (∀ s ∈ zs, s.size ≤ 65536)
/-! alive -/
def aliveL : List ByteArray := [⟨#[97, 98]⟩, ⟨#[53]⟩, ⟨#[45, 51, 48, 48]⟩]
theorem intS_ab : intS ⟨#[97, 98]⟩ = none := by decide
theorem intS_5 : intS ⟨#[53]⟩ = some 5 := by
  unfold intS
  rw [show Lib.parseIntB 64 (⟨#[53]⟩ : ByteArray).data.toList = .ok 5 by decide]
  simp [Lib.itoa, Lib.decDigits, strOf]
theorem intS_300 : intS ⟨#[45, 51, 48, 48]⟩ = some (-300) := by
  unfold intS
  rw [show Lib.parseIntB 64 (⟨#[45, 51, 48, 48]⟩ : ByteArray).data.toList = .ok (-300) by decide]
  simp [Lib.itoa, Lib.decDigits, strOf]
theorem alive_packL : packL aliveL = [20, 0, 0, 0, 3, 0, 0, 0, 2, 97, 98, 3, 241, 5, 2, 242, 212, 254, 3, 255] := by
  unfold packL sizeP
  have h : bodyL aliveL = [2, 97, 98, 3, 241, 5, 2, 242, 212, 254, 3] := by
    unfold aliveL
    rw [bodyL_cons, bodyL_cons, bodyL_cons, bodyL_nil, entL, entL, entL, headL_short intS_ab (by decide), headL_int intS_5, headL_int intS_300]
    decide
  rw [h]
  decide
theorem alive_bytes : strOf (packL aliveL) = ⟨#[20, 0, 0, 0, 3, 0, 0, 0, 2, 97, 98, 3, 241, 5, 2, 242, 212, 254, 3, 255]⟩ := by rw [alive_packL]; rfl
theorem alive_fits : fitsT aliveL = true := by decide
theorem alive_find : findP aliveL ⟨#[53]⟩ 0 2 = -1 := by
  unfold findP
  rw [if_neg (by decide)]
  have h : (toldP aliveL).find? (hitP ⟨#[53]⟩ 0 2) = none := by
    unfold toldP hitP aliveL
    simp only [ByteArray.toList_eq]
    decide +kernel
  rw [h]
theorem alive_get : getV aliveL (-1) = .tuple #[.string ⟨#[45, 51, 48, 48]⟩, .bool true] := rfl
theorem alive_ins : insP aliveL 4 ⟨#[120]⟩ = (1, aliveL) := rfl
end Go.Proofs.YtlecnlnpgghmbaaGreatDoor

/- quick: a long row of texts in memory. -/
namespace Go.Proofs.YtlecnlnpgghmbaaGreatDoor
set_option linter.unusedVariables false
set_option linter.unusedSimpArgs false
open Go.RowKit
/-- A node: its block, its pack, the pack's blocks, the pack's texts. -/
structure Nd where
  x : Nat
  p : Nat
  F : Nat → Prop
  T : List ByteArray
def ptrO : Option Nat → Value
  | none => .pointer none
  | some x => .pointer (some ⟨x, 0, none⟩)
def hdO : List Nd → Option Nat → Option Nat
  | [], b => b
  | nd :: _, _ => some nd.x
def lstO : Option Nat → List Nd → Option Nat
  | a, [] => a
  | _, nd :: l => lstO (some nd.x) l
def nodeO (p : Nat) (a b : Option Nat) : Obj := .cells #[.pointer (some ⟨p, 0, none⟩), ptrO a, ptrO b] 163 (0, 0)
def quickO (a b : Option Nat) (n : Int) : Obj := .cells #[.bool true, ptrO a, ptrO b, .int .i64 n] 158 (0, 0)
def Chain (w : World) : Option Nat → List Nd → Option Nat → Prop
  | _, [], _ => True
  | a, nd :: l, b => w.heap[nd.x]? = some (nodeO nd.p a (hdO l b)) ∧ Chain w (some nd.x) l b
def key (nd : Nd) : Nat × Nat := (nd.x, nd.p)
section
variable {w w' : World} {b : Option Nat} {A B : List Nd} {nd : Nd}
theorem hdO_append : hdO (A ++ B) b = hdO A (hdO B b) := by cases A <;> rfl
theorem lstO_append : ∀ (A : List Nd) (a : Option Nat), lstO a (A ++ B) = lstO (lstO a A) B
  | [], a => rfl
  | nd :: l, a => lstO_append l (some nd.x)
theorem lstO_last (A : List Nd) (u : Nd) (a : Option Nat) : lstO a (A ++ [u]) = some u.x := by rw [lstO_append]; rfl
theorem chain_append : ∀ (A : List Nd) (a : Option Nat), Chain w a (A ++ B) b ↔ Chain w a A (hdO B b) ∧ Chain w (lstO a A) B b
  | [], a => by simp [Chain, lstO]
  | nd :: l, a => by
    simp only [List.cons_append, Chain, lstO, chain_append l, hdO_append, and_assoc]
theorem Chain.keep : ∀ {l : List Nd} {a : Option Nat}, Chain w a l b → (∀ nd ∈ l, w'.heap[nd.x]? = w.heap[nd.x]?) → Chain w' a l b
  | [], _, _, _ => trivial
  | nd :: l, a, h, hk => ⟨(hk nd (by simp)).trans h.1, Chain.keep h.2 fun x hx => hk x (by simp [hx])⟩
theorem Chain.isNode : ∀ {l : List Nd} {a : Option Nat}, Chain w a l b → ∀ nd ∈ l, ∃ a b, w.heap[nd.x]? = some (nodeO nd.p a b)
  | [], _, _, nd, h => by simp at h
  | u :: l, a, h, nd, hm => by
    rcases List.mem_cons.1 hm with rfl | hm
    · exact ⟨_, _, h.1⟩
    · exact Chain.isNode h.2 nd hm
theorem hdO_key : ∀ {l m : List Nd} (b : Option Nat), l.map key = m.map key → hdO l b = hdO m b
  | [], [], _, _ => rfl
  | u :: l, v :: m, _, h => by
    simp only [List.map_cons, List.cons.injEq, key, Prod.mk.injEq] at h
    simp [hdO, h.1.1]
  | [], _ :: _, _, h => by simp at h
  | _ :: _, [], _, h => by simp at h
theorem lstO_key : ∀ {l m : List Nd} (a : Option Nat), l.map key = m.map key → lstO a l = lstO a m
  | [], [], _, _ => rfl
  | u :: l, v :: m, _, h => by
    simp only [List.map_cons, List.cons.injEq, key, Prod.mk.injEq] at h
    simp only [lstO, h.1.1]
    exact lstO_key _ h.2
  | [], _ :: _, _, h => by simp at h
  | _ :: _, [], _, h => by simp at h
theorem Chain.key : ∀ {l m : List Nd} {a : Option Nat}, l.map key = m.map key → Chain w a l b → Chain w a m b
  | [], [], _, _, _ => trivial
  | u :: l, v :: m, a, h, hc => by
    have hh := h
    simp only [List.map_cons, List.cons.injEq, Proofs.YtlecnlnpgghmbaaGreatDoor.key, Prod.mk.injEq] at h
    refine ⟨?_, ?_⟩
    · rw [← h.1.1, ← h.1.2, ← hdO_key b (l := l) (m := m) (List.cons.inj hh).2]; exact hc.1
    · rw [← h.1.1]; exact Chain.key (List.cons.inj hh).2 hc.2
  | [], _ :: _, _, h, _ => by simp at h
  | _ :: _, [], _, h, _ => by simp at h
end
/-- The nodes' packs are apart. -/
def ApartN (Ns : List Nd) : Prop := Ns.Pairwise fun a b => ∀ k, a.F k → ¬ b.F k
/-- A long row: the head in block q, its nodes, how many it says it has. -/
structure QRow (w : World) (q : Nat) (Ns : List Nd) (n : Int) : Prop where
  head : w.heap[q]? = some (quickO (hdO Ns none) (lstO none Ns) n)
  chain : Chain w none Ns none
  packs : ∀ nd ∈ Ns, PackF w nd.p nd.F nd.T
  apart : ApartN Ns
def foot (q : Nat) (Ns : List Nd) (k : Nat) : Prop := k = q ∨ ∃ nd ∈ Ns, k = nd.x ∨ nd.F k
def flatN (Ns : List Nd) : List ByteArray := (Ns.map Nd.T).flatten
theorem flat_append (A B : List Nd) : flatN (A ++ B) = flatN A ++ flatN B := by simp [flatN]
theorem flat_cons (nd : Nd) (B : List Nd) : flatN (nd :: B) = nd.T ++ flatN B := by simp [flatN]
@[simp] theorem flat_nil : flatN [] = [] := rfl
theorem PackF.kind {w : World} {p : Nat} {F : Nat → Prop} {L : List ByteArray} (h : PackF w p F L) {k : Nat} (hk : F k) : ∃ cs E fz, w.heap[k]? = some (.cells cs E fz) ∧ (E = 151 ∨ E = 5) := by
  obtain ⟨g, cap, cur, h, hF⟩ := h
  rcases (hF k).1 hk with rfl | rfl
  · exact ⟨_, _, _, h.head, .inl rfl⟩
  · obtain ⟨fz, _, hh⟩ := h.row
    exact ⟨_, _, _, hh, .inr rfl⟩
section
variable {w w' : World} {q : Nat} {Ns A B : List Nd} {nd u : Nd} {n : Int}
theorem QRow.isNode (h : QRow w q Ns n) (hm : nd ∈ Ns) : ∃ a b, w.heap[nd.x]? = some (nodeO nd.p a b) := h.chain.isNode nd hm
theorem QRow.node (h : QRow w q (A ++ nd :: B) n) : w.heap[nd.x]? = some (nodeO nd.p (lstO none A) (hdO B none)) := ((chain_append A none).1 h.chain).2.1
theorem QRow.x_nF (h : QRow w q Ns n) (h1 : nd ∈ Ns) (h2 : u ∈ Ns) : ¬ u.F nd.x := fun hF => by
  obtain ⟨a, b, e⟩ := h.isNode h1
  obtain ⟨cs, E, fz, e2, hE⟩ := (h.packs u h2).kind hF
  rw [e] at e2
  injection e2 with e2
  injection e2 with _ e3 _
  rcases hE with rfl | rfl <;> exact absurd e3 (by decide)
theorem QRow.q_nF (h : QRow w q Ns n) (h2 : u ∈ Ns) : ¬ u.F q := fun hF => by
  obtain ⟨cs, E, fz, e2, hE⟩ := (h.packs u h2).kind hF
  rw [h.head] at e2
  injection e2 with e2
  injection e2 with _ e3 _
  rcases hE with rfl | rfl <;> exact absurd e3 (by decide)
theorem QRow.q_nx (h : QRow w q Ns n) (h2 : u ∈ Ns) : u.x ≠ q := fun e => by
  obtain ⟨a, b, e2⟩ := h.isNode h2
  rw [e, h.head] at e2
  injection e2 with e2
  injection e2 with _ e3 _
  exact absurd e3 (by decide)
theorem nodeO_inj {p p' : Nat} {a b a' b' : Option Nat} (h : nodeO p a b = nodeO p' a' b') : p = p' := by
  unfold nodeO at h
  simp only [Obj.cells.injEq, Array.mk.injEq, List.cons.injEq, Value.pointer.injEq, Option.some.injEq, Addr.mk.injEq] at h
  exact h.1.1.1
theorem QRow.xs (h : QRow w q Ns n) : Ns.Pairwise fun a b => a.x ≠ b.x := by
  refine List.Pairwise.imp_of_mem (fun {a b} ha hb hab e => ?_) h.apart
  obtain ⟨a1, b1, e1⟩ := h.isNode ha
  obtain ⟨a2, b2, e2⟩ := h.isNode hb
  rw [e, e2] at e1
  have hp := nodeO_inj (Option.some.inj e1)
  exact hab _ ((h.packs a ha).head) (by rw [← hp]; exact (h.packs b hb).head)
theorem QRow.foot_lt (h : QRow w q Ns n) {k : Nat} (hk : foot q Ns k) : k < w.heap.size := by
  rcases hk with rfl | ⟨nd, hm, rfl | hF⟩
  · exact heap_lt h.head
  · obtain ⟨a, b, e⟩ := h.isNode hm; exact heap_lt e
  · exact (h.packs nd hm).lt hF
theorem QRow.chg (h : QRow w q Ns n) {S : Nat → Prop} (hc : Chg S w w') (hn : ∀ k, foot q Ns k → ¬ S k) : QRow w' q Ns n where
  head := hc.keep h.head (hn q (.inl rfl))
  chain := h.chain.keep fun nd hm => by
    obtain ⟨a, b, e⟩ := h.isNode hm
    rw [e]; exact hc.keep e (hn _ (.inr ⟨nd, hm, .inl rfl⟩))
  packs := fun nd hm => (h.packs nd hm).chg hc fun k hk => hn k (.inr ⟨nd, hm, .inr hk⟩)
  apart := h.apart
theorem QRow.below (h : QRow w q Ns n) (hb : Below w.heap.size w w') : QRow w' q Ns n := h.chg (Chg.of_below (fun _ => False) hb) fun _ _ => id
/-- Packs have changed, the chain has not. -/
theorem QRow.repack (h : QRow w q Ns n) {Ms : List Nd} {S : Nat → Prop} (hk : Ns.map key = Ms.map key) (hc : Chg S w w') (hs : ∀ k, S k → ∃ nd ∈ Ns, nd.F k) (hp : ∀ nd ∈ Ms, PackF w' nd.p nd.F nd.T) (ha : ApartN Ms) : QRow w' q Ms n where
  head := by
    rw [← hdO_key none hk, ← lstO_key none hk]
    exact hc.keep h.head fun hS => by obtain ⟨nd, hm, hF⟩ := hs q hS; exact h.q_nF hm hF
  chain := by
    refine (h.chain.keep fun nd hm => ?_).key hk
    obtain ⟨a, b, e⟩ := h.isNode hm
    rw [e]; exact hc.keep e fun hS => by obtain ⟨u, hu, hF⟩ := hs _ hS; exact h.x_nF hm hu hF
  packs := hp
  apart := ha
theorem apart_mid : ApartN (A ++ nd :: B) ↔ ApartN A ∧ ApartN B ∧ (∀ u ∈ A, ∀ k, u.F k → ¬ nd.F k) ∧ (∀ u ∈ B, ∀ k, nd.F k → ¬ u.F k) ∧ ∀ u ∈ A, ∀ v ∈ B, ∀ k, u.F k → ¬ v.F k := by
  unfold ApartN
  simp only [List.pairwise_append, List.pairwise_cons, List.mem_cons]
  constructor
  · rintro ⟨h1, ⟨h2, h3⟩, h4⟩
    exact ⟨h1, h3, fun u hu => h4 u hu nd (.inl rfl), h2, fun u hu v hv => h4 u hu v (.inr hv)⟩
  · rintro ⟨h1, h2, h3, h4, h5⟩
    exact ⟨h1, ⟨h4, h2⟩, fun u hu v hv => hv.elim (fun e => e ▸ h3 u hu) (h5 u hu v)⟩
/-- One pack has changed. -/
theorem QRow.setPack (h : QRow w q (A ++ nd :: B) n) {F' : Nat → Prop} {T' : List ByteArray} (hc : Chg nd.F w w') (hp : PackF w' nd.p F' T') (hf : Fresh w nd.F F') : QRow w' q (A ++ ⟨nd.x, nd.p, F', T'⟩ :: B) n := by
  have ha := apart_mid.1 h.apart
  have hmem : ∀ u ∈ A, u ∈ A ++ nd :: B := fun u hu => by simp [hu]
  have hmem2 : ∀ u ∈ B, u ∈ A ++ nd :: B := fun u hu => by simp [hu]
  refine h.repack (S := nd.F) (by simp [key]) hc (fun k hk => ⟨nd, by simp, hk⟩) (fun u hu => ?_) ?_
  · rcases List.mem_append.1 hu with hu | hu
    · exact (h.packs u (hmem u hu)).chg hc (ha.2.2.1 u hu)
    · rcases List.mem_cons.1 hu with rfl | hu
      · exact hp
      · exact (h.packs u (hmem2 u hu)).chg hc fun k hk hS => ha.2.2.2.1 u hu k hS hk
  · refine apart_mid.2 ⟨ha.1, ha.2.1, fun u hu k hk hF => ?_, fun u hu k hF hk => ?_, ha.2.2.2.2⟩
    · rcases hf k hF with h1 | h1
      · exact ha.2.2.1 u hu k hk h1
      · have := (h.packs u (hmem u hu)).lt hk; omega
    · rcases hf k hF with h1 | h1
      · exact ha.2.2.2.1 u hu k h1 hk
      · have := (h.packs u (hmem2 u hu)).lt hk; omega
/-- The count has been written. -/
theorem QRow.setN (h : QRow w q Ns n) (m : Int) : QRow (w.setCell ⟨q, 3, none⟩ (.int .i64 m)) q Ns m := by
  have hh := setCell_head h.head 3 (.int .i64 m)
  have hc : Chg (fun k => k = q) w (w.setCell ⟨q, 3, none⟩ (.int .i64 m)) := Chg.setCell _ _ _ _ rfl
  refine ⟨hh, h.chain.keep fun nd hm => ?_, fun nd hm => (h.packs nd hm).chg hc fun k hk e => ?_, h.apart⟩
  · obtain ⟨a, b, e⟩ := h.isNode hm
    rw [e]; exact hc.keep e (h.q_nx hm)
  · subst e; exact h.q_nF hm hk
end
end Go.Proofs.YtlecnlnpgghmbaaGreatDoor

/- quick: a node comes, a node goes: what the writes make. -/
namespace Go.Proofs.YtlecnlnpgghmbaaGreatDoor
set_option linter.unusedVariables false
set_option linter.unusedSimpArgs false
open Go.RowKit
section
variable {w w' : World} {q : Nat} {Ns A B : List Nd} {nd u : Nd} {n : Int} {S : Nat → Prop}
theorem xs_mid (h : (A ++ nd :: B).Pairwise fun a b => a.x ≠ b.x) : (∀ u ∈ A, u.x ≠ nd.x) ∧ (∀ v ∈ B, nd.x ≠ v.x) ∧ (∀ u ∈ A, ∀ v ∈ B, u.x ≠ v.x) := by
  simp only [List.pairwise_append, List.pairwise_cons, List.mem_cons] at h
  exact ⟨fun u hu => h.2.2 u hu nd (.inl rfl), h.2.1.1, fun u hu v hv => h.2.2 u hu v (.inr hv)⟩
theorem QRow.packs_keep (h : QRow w q Ns n) (hc : Chg S w w') (hs : ∀ k, S k → k = q ∨ ∃ u ∈ Ns, k = u.x) (hm : nd ∈ Ns) : PackF w' nd.p nd.F nd.T :=
  (h.packs nd hm).chg hc fun k hk hS => by
    rcases hs k hS with rfl | ⟨u, hu, rfl⟩
    · exact h.q_nF hm hk
    · exact h.x_nF hu hm hk
/-- A node comes behind another one. -/
theorem QRow.link (h : QRow w q (A ++ nd :: B) n) (hc : Chg S w w') (hs : ∀ k, S k → k = q ∨ k = nd.x ∨ ∃ v B', B = v :: B' ∧ k = v.x) {y p : Nat} {F : Nat → Prop}
    (hQ : w'.heap[q]? = some (quickO (hdO (A ++ nd :: B) none) (lstO none (A ++ nd :: ⟨y, p, F, []⟩ :: B)) n)) (hX : w'.heap[nd.x]? = some (nodeO nd.p (lstO none A) (some y)))
    (hY : w'.heap[y]? = some (nodeO p (some nd.x) (hdO B none))) (hV : ∀ v B', B = v :: B' → w'.heap[v.x]? = some (nodeO v.p (some y) (hdO B' none)))
    (hp : PackF w' p F []) (hF : ∀ u ∈ A ++ nd :: B, ∀ k, u.F k → ¬ F k) : QRow w' q (A ++ nd :: ⟨y, p, F, []⟩ :: B) n := by
  have hx := xs_mid h.xs
  have hs' : ∀ k, S k → k = q ∨ ∃ u ∈ A ++ nd :: B, k = u.x := fun k hk => by
    rcases hs k hk with e | e | ⟨v, B', e1, e⟩
    · exact .inl e
    · exact .inr ⟨nd, by simp, e⟩
    · exact .inr ⟨v, by simp [e1], e⟩
  obtain ⟨c1, c2, c3⟩ := (chain_append A none).1 h.chain
  have hkeep : ∀ u ∈ A ++ nd :: B, u.x ≠ nd.x → (∀ v B', B = v :: B' → u.x ≠ v.x) → w'.heap[u.x]? = w.heap[u.x]? := fun u hu h1 h2 => by
    obtain ⟨a, b, e⟩ := h.isNode hu
    rw [e]; refine hc.keep e fun hS => ?_
    rcases hs _ hS with e | e | ⟨v, B', e1, e⟩
    · exact h.q_nx hu e
    · exact h1 e
    · exact h2 v B' e1 e
  refine ⟨?_, (chain_append A none).2 ⟨?_, hX, hY, ?_⟩, fun u hu => ?_, ?_⟩
  · rw [hQ]; congr 2; rw [hdO_append, hdO_append]; rfl
  · exact c1.keep fun u hu => hkeep u (by simp [hu]) (hx.1 u hu) fun v B' e => hx.2.2 u hu v (by simp [e])
  · cases B with
    | nil => trivial
    | cons v B' =>
      have hxB : ∀ u ∈ B', v.x ≠ u.x := by
        have := h.xs
        simp only [List.pairwise_append, List.pairwise_cons] at this
        exact this.2.1.2.1
      exact ⟨hV v B' rfl, c3.2.keep fun u hu => hkeep u (by simp [hu]) (fun e => hx.2.1 u (by simp [hu]) e.symm) fun v2 B2 e => by
        obtain ⟨rfl, rfl⟩ := List.cons.inj e
        exact fun e => hxB u hu e.symm⟩
  · simp only [List.mem_append, List.mem_cons] at hu
    rcases hu with hu | rfl | rfl | hu
    · exact h.packs_keep hc hs' (by simp [hu])
    · exact h.packs_keep hc hs' (by simp)
    · exact hp
    · exact h.packs_keep hc hs' (by simp [hu])
  · have ha := apart_mid.1 h.apart
    rw [show A ++ nd :: ⟨y, p, F, []⟩ :: B = (A ++ [nd]) ++ ⟨y, p, F, []⟩ :: B by simp]
    refine apart_mid.2 ⟨?_, ha.2.1, fun u hu k hk hF2 => hF u (by simp at hu ⊢; rcases hu with hu | hu <;> simp [hu]) k hk hF2, fun u hu k h1 h2 => hF u (by simp [hu]) k h2 h1, fun u hu v hv k h1 h2 => ?_⟩
    · exact apart_mid.2 ⟨ha.1, List.Pairwise.nil, ha.2.2.1, by simp, by simp⟩
    · rcases List.mem_append.1 hu with hu | hu
      · exact ha.2.2.2.2 u hu v hv k h1 h2
      · rw [List.mem_singleton] at hu; subst hu; exact ha.2.2.2.1 v hv k h1 h2
/-- The first node comes. -/
theorem QRow.link0 (h : QRow w q [] n) (hc : Chg (fun k => k = q) w w') {y p : Nat} {F : Nat → Prop} (hQ : w'.heap[q]? = some (quickO (some y) (some y) n)) (hY : w'.heap[y]? = some (nodeO p none none)) (hp : PackF w' p F []) : QRow w' q [⟨y, p, F, []⟩] n :=
  ⟨hQ, ⟨hY, trivial⟩, fun u hu => by rw [List.mem_singleton] at hu; subst hu; exact hp, List.pairwise_singleton _ _⟩
/-- A node goes. -/
theorem QRow.unlink (h : QRow w q (A ++ nd :: B) n) (hc : Chg S w w') (hs : ∀ k, S k → k = q ∨ (∃ A' u, A = A' ++ [u] ∧ k = u.x) ∨ ∃ v B', B = v :: B' ∧ k = v.x)
    (hQ : w'.heap[q]? = some (quickO (hdO (A ++ B) none) (lstO none (A ++ B)) n)) (hU : ∀ A' u, A = A' ++ [u] → w'.heap[u.x]? = some (nodeO u.p (lstO none A') (hdO B none)))
    (hV : ∀ v B', B = v :: B' → w'.heap[v.x]? = some (nodeO v.p (lstO none A) (hdO B' none))) : QRow w' q (A ++ B) n := by
  have hx := xs_mid h.xs
  have hs' : ∀ k, S k → k = q ∨ ∃ u ∈ A ++ nd :: B, k = u.x := fun k hk => by
    rcases hs k hk with e | ⟨A', u, e1, e⟩ | ⟨v, B', e1, e⟩
    · exact .inl e
    · exact .inr ⟨u, by simp [e1], e⟩
    · exact .inr ⟨v, by simp [e1], e⟩
  obtain ⟨c1, c2, c3⟩ := (chain_append A none).1 h.chain
  have hxs := h.xs
  simp only [List.pairwise_append, List.pairwise_cons] at hxs
  have hkeep : ∀ u ∈ A ++ nd :: B, (∀ A' v, A = A' ++ [v] → u.x ≠ v.x) → (∀ v B', B = v :: B' → u.x ≠ v.x) → w'.heap[u.x]? = w.heap[u.x]? := fun u hu h1 h2 => by
    obtain ⟨a, b, e⟩ := h.isNode hu
    rw [e]; refine hc.keep e fun hS => ?_
    rcases hs _ hS with e | ⟨A', v, e1, e⟩ | ⟨v, B', e1, e⟩
    · exact h.q_nx hu e
    · exact h1 A' v e1 e
    · exact h2 v B' e1 e
  refine ⟨hQ, (chain_append A none).2 ⟨?_, ?_⟩, fun u hu => h.packs_keep hc hs' (by simp only [List.mem_append, List.mem_cons] at hu ⊢; rcases hu with hu | hu <;> simp [hu]), ?_⟩
  · rcases List.eq_nil_or_concat A with rfl | ⟨A', u, e⟩
    · trivial
    · rw [List.concat_eq_append] at e
      subst e
      obtain ⟨d1, _⟩ := (chain_append A' none).1 c1
      refine (chain_append A' none).2 ⟨d1.keep fun v hv => hkeep v (by simp [hv]) (fun A2 v2 e => ?_) fun v2 B' e => hx.2.2 v (by simp [hv]) v2 (by simp [e]), ?_, trivial⟩
      · have hvu : v.x ≠ u.x := by
          have := hxs.1
          simp only [List.pairwise_append, List.mem_singleton] at this
          exact this.2.2 v hv u rfl
        obtain ⟨_, e2⟩ := List.append_inj' e rfl
        rw [← List.head_eq_of_cons_eq e2]
        exact hvu
      · exact hU A' u rfl
  · cases B with
    | nil => trivial
    | cons v B' =>
      refine ⟨hV v B' rfl, c3.2.keep fun u hu => hkeep u (by simp [hu]) (fun A' v2 e e2 => hx.2.2 v2 (by simp [e]) u (by simp [hu]) e2.symm) fun v2 B2 e => ?_⟩
      obtain ⟨rfl, rfl⟩ := List.cons.inj e
      exact fun e => (List.pairwise_cons.1 hxs.2.1.2).1 u hu e.symm
  · have ha := apart_mid.1 h.apart
    exact List.pairwise_append.2 ⟨ha.1, ha.2.1, fun u hu v hv => ha.2.2.2.2 u hu v hv⟩
end
end Go.Proofs.YtlecnlnpgghmbaaGreatDoor

/- quick: each, find, Packs. -/
namespace Go.Proofs.YtlecnlnpgghmbaaGreatDoor
set_option linter.unusedVariables false
set_option linter.unusedSimpArgs false
open Go.RowKit
/-- How many nodes from here on. -/
def posX : List Nd → Option Nat → Nat
  | [], _ => 0
  | nd :: l, o => if some nd.x = o then l.length + 1 else posX l o
theorem posX_none : ∀ l, posX l none = 0
  | [] => rfl
  | nd :: l => by simp [posX, posX_none l]
theorem posX_hd : ∀ {A B : List Nd}, ((A ++ B).Pairwise fun a b => a.x ≠ b.x) → posX (A ++ B) (hdO B none) = B.length
  | [], [], _ => rfl
  | [], nd :: B, _ => by simp [posX, hdO]
  | u :: A, B, h => by
    have h' := List.pairwise_cons.1 h
    have ih := posX_hd (A := A) (B := B) h'.2
    cases B with
    | nil => simp [hdO, posX_none]
    | cons nd B =>
      have := h'.1 nd (by simp)
      simp only [List.cons_append, posX, hdO] at ih ⊢
      rw [if_neg (by simp; exact this)]
      exact ih
def ptrX : Value → Option Nat
  | .pointer (some a) => some a.block
  | _ => none
@[simp] theorem ptrX_ptrO (o : Option Nat) : ptrX (ptrO o) = o := by cases o <;> rfl
abbrev pv (x : Nat) : Value := .pointer (some ⟨x, 0, none⟩)
theorem hdO_nilO : ptrO (hdO [] none) = .pointer none := rfl
theorem hdO_cons (nd : Nd) (l : List Nd) (b : Option Nat) : ptrO (hdO (nd :: l) b) = pv nd.x := rfl
set_option maxHeartbeats 1600000 in
set_option maxRecDepth 100000 in
theorem each_any (fid : FuncId) (caps : Array Value) {w : World} {q : Nat} {Ns : List Nd} {n : Int} (I : List Nd → World → Prop) (R : World → Prop)
    (hce : ∀ (w : World) (args : Array Value), (callFunc fid args).run Tryz.prog w = .ok (.enter fid args) w)
    (hrow : ∀ A w', I A w' → QRow w' q Ns n)
    (hstep : ∀ A nd B, Ns = A ++ nd :: B → ∀ w', I A w' → Calls Tryz.prog fid (#[pv nd.x] ++ caps) w' fun e w'' => (e = .returned (.bool true) ∧ I (A ++ [nd]) w'') ∨ (e = .returned (.bool false) ∧ R w''))
    (h0 : I [] w) :
    Calls Tryz.prog 100 #[pv q, .func (.func fid) #[] caps] w fun e w' => (∃ v, e = .returned v) ∧ (I Ns w' ∨ R w') := by
  have HR := Lib.hid hrow
  have HS := Lib.hid hstep
  have H0 := Lib.hid h0
  have x1 := cell_in (hrow _ _ h0).head (i := 1) rfl
  clear hrow hstep h0
  go_enter Tryz.func100, Tryz.ntmps100
  go_wp2_with fail
  go_loopw [4] (fun x wr => ∃ A B, Ns = A ++ B ∧ x = ptrO (hdO B none) ∧ Hid (I A wr)) (fun x _ => posX Ns (ptrX x))
  case atStart => exact ⟨[], Ns, rfl, rfl, H0⟩
  case round =>
    obtain ⟨A, B, hAB, rfl, hI⟩ := hrel
    cases B with
    | nil =>
      rw [List.append_nil] at hAB
      subst hAB
      rw [hdO_nilO]
      go_wp2_with fail
      go_end0
      exact ⟨⟨_, rfl⟩, .inl hI.out⟩
    | cons nd B =>
      have HC := Lib.hid (HS.out A nd B hAB wr hI.out)
      have HX := Lib.hid (show posX Ns (some nd.x) = B.length + 1 ∧ posX Ns (hdO B none) = B.length from by
        have hx := (HR.out A wr hI.out).xs
        rw [hAB] at hx ⊢
        refine ⟨by rw [show some nd.x = hdO (nd :: B) none from rfl, posX_hd hx, List.length_cons], ?_⟩
        have := posX_hd (A := A ++ [nd]) (B := B) (by simpa using hx)
        simpa using this)
      rw [hdO_cons]
      go_wp2_with fail
      refine HC.out.mono ?_
      rintro e w2 (⟨rfl, i2⟩ | ⟨rfl, r2⟩)
      · have hn := (HR.out _ w2 i2)
        rw [hAB] at hn
        have x2 := cell_in hn.node (i := 2) rfl
        have HI2 := Lib.hid i2
        have HAB := Lib.hid hAB
        clear hn i2 hAB
        go_wp2_with fail
        go_roundw
        case rel => exact ⟨A ++ [nd], B, by rw [HAB.out]; simp, rfl, HI2⟩
        case measure =>
          simp only [ptrX_ptrO]
          have := HX.out
          show posX Ns (hdO B none) < posX Ns (some nd.x)
          omega
      · have HR2 := Lib.hid r2
        clear r2
        go_wp2_with fail
        refine bodyPost_ret (results_none rfl _ _ _) rfl ?_
        exact ⟨⟨_, rfl⟩, .inr HR2.out⟩
end Go.Proofs.YtlecnlnpgghmbaaGreatDoor

/- quick: find. -/
namespace Go.Proofs.YtlecnlnpgghmbaaGreatDoor
set_option linter.unusedVariables false
set_option linter.unusedSimpArgs false
open Go.RowKit
abbrev intO (n : Int) : Obj := .cells #[.int .i64 n] 3 (0, 0)
abbrev nptrO (o : Option Nat) : Obj := .cells #[ptrO o] 156 (0, 0)
set_option maxHeartbeats 1600000 in
set_option maxRecDepth 100000 in
theorem find1_any {w : World} {x p : Nat} {F : Nat → Prop} {T : List ByteArray} {a b : Option Nat} (hn : w.heap[x]? = some (nodeO p a b)) (hp : PackF w p F T) {c c1 c2 m : Nat} (hm : m < 9223372036854775808)
    (h0 : w.heap[c]? = some (intO m)) (h1 : w.heap[c1]? = some (nptrO none)) (h2 : w.heap[c2]? = some (intO 0)) (hd1 : c ≠ c1) (hd2 : c ≠ c2) (hd3 : c1 ≠ c2) :
    Calls Tryz.prog 101 #[pv x, pv c, pv c1, pv c2] w fun e w' => Chg (fun k => k = c ∨ k = c1 ∨ k = c2) w w' ∧
      ((T.length < m ∧ e = .returned (.bool true) ∧ w'.heap[c]? = some (intO ((m - T.length : Nat) : Int)) ∧ w'.heap[c1]? = some (nptrO none) ∧ w'.heap[c2]? = some (intO 0)) ∨
       (m ≤ T.length ∧ e = .returned (.bool false) ∧ w'.heap[c1]? = some (nptrO (some x)) ∧ w'.heap[c2]? = some (intO m))) := by
  have x0 := cell_in hn (i := 0) rfl
  have y0 := cell_in h0 (i := 0) rfl
  have y1 := cell_in h1 (i := 0) rfl
  have y2 := cell_in h2 (i := 0) rfl
  have f0 := frozen_in h0 0
  have f1 := frozen_in h1 0
  have f2 := frozen_in h2 0
  have HL := Lib.hid (packLen hp)
  have hmany := hp.ok.many
  obtain ⟨n, hnT⟩ : ∃ n, T.length = n := ⟨_, rfl⟩
  rw [hnT] at HL hmany ⊢
  have H := Lib.hid (And.intro h0 (And.intro h1 h2))
  clear hn hp h0 h1 h2 hnT
  by_cases hlt : n < m
  · have hd : decide ((n : Int) < (m : Int)) = true := by simp; omega
    have HE := Lib.hid (show Chg (fun k => k = c ∨ k = c1 ∨ k = c2) w (w.setCell ⟨c, 0, none⟩ (.int .i64 ((m : Int) - (n : Int)))) ∧ (w.setCell ⟨c, 0, none⟩ (.int .i64 ((m : Int) - (n : Int)))).heap[c]? = some (intO ((m - n : Nat) : Int)) ∧ (w.setCell ⟨c, 0, none⟩ (.int .i64 ((m : Int) - (n : Int)))).heap[c1]? = some (nptrO none) ∧ (w.setCell ⟨c, 0, none⟩ (.int .i64 ((m : Int) - (n : Int)))).heap[c2]? = some (intO 0) from by
      have hc : Chg (fun k => k = c) w (w.setCell ⟨c, 0, none⟩ (.int .i64 ((m : Int) - (n : Int)))) := Chg.setCell _ _ _ _ rfl
      refine ⟨hc.mono fun k hk _ => .inl hk, ?_, hc.keep H.out.2.1 (Ne.symm hd1), hc.keep H.out.2.2 (Ne.symm hd2)⟩
      rw [setCell_head H.out.1, show ((m - n : Nat) : Int) = (m : Int) - (n : Int) by omega]; rfl)
    go_enter Tryz.func101, Tryz.ntmps101
    go_wp2_with fail
    refine HL.out.mono ?_
    rintro e w1 ⟨rfl, rfl⟩
    go_wp2_with fail
    go_ret
    exact ⟨HE.out.1, .inl ⟨hlt, rfl, HE.out.2⟩⟩
  · have hd : decide ((n : Int) < (m : Int)) = false := by simp; omega
    go_enter Tryz.func101, Tryz.ntmps101
    go_wp2_with fail
    refine HL.out.mono ?_
    rintro e w1 ⟨rfl, rfl⟩
    go_wp2_with fail
    obtain ⟨wr, hwr⟩ : ∃ wr, wr = ((w.setCell ⟨c1, 0, none⟩ (pv x)).setCell ⟨c2, 0, none⟩ (.int .i64 m)).drew := ⟨_, rfl⟩
    have HF := Lib.hid (show Chg (fun k => k = c ∨ k = c1 ∨ k = c2) w wr ∧ wr.heap[c1]? = some (nptrO (some x)) ∧ wr.heap[c2]? = some (intO m) from by
      have e1 := setCell_head H.out.2.1 0 (pv x)
      have k1 : Chg (fun k => k = c1) w (w.setCell ⟨c1, 0, none⟩ (pv x)) := Chg.setCell _ _ _ _ rfl
      have k2 : Chg (fun k => k = c2) (w.setCell ⟨c1, 0, none⟩ (pv x)) wr := by rw [hwr]; exact (Chg.setCell (fun k => k = c2) _ ⟨c2, 0, none⟩ _ rfl).trans (Chg.drew (fun k => k = c2) _) fun _ h _ => h
      refine ⟨(k1.mono fun k hk _ => .inr (.inl hk)).trans k2 fun k hk _ => .inr (.inr hk), k2.keep e1 hd3, ?_⟩
      rw [hwr]
      exact setCell_head (k1.keep H.out.2.2 (Ne.symm hd3)) 0 _)
    have HW := Lib.hid hwr
    clear hwr
    go_region
    rw [← HW.out]
    go_wp2_with fail
    go_ret
    exact ⟨HF.out.1, .inr ⟨by omega, rfl, HF.out.2⟩⟩
/-- Where a place is. -/
structure At (Ns : List Nd) (m : Nat) (A : List Nd) (nd : Nd) (B : List Nd) (pl : Nat) : Prop where
  eq : Ns = A ++ nd :: B
  sum : (flatN A).length + pl = m
  le : pl ≤ nd.T.length
  pos : 0 < m → 0 < pl
set_option maxHeartbeats 1600000 in
set_option maxRecDepth 100000 in
theorem find_any {w : World} {q : Nat} {Ns : List Nd} {n : Int} (h : QRow w q Ns n) (m : Nat) (hm : m ≤ (flatN Ns).length) (hm2 : m < 9223372036854775808) :
    Calls Tryz.prog 95 #[pv q, .int .i64 m] w fun e w' => ((Ns = [] ∧ e = .returned (.tuple #[.pointer none, .int .i64 0])) ∨ ∃ A nd B pl, At Ns m A nd B pl ∧ e = .returned (.tuple #[pv nd.x, .int .i64 pl])) ∧ Below w.heap.size w w' := by
  obtain ⟨w3, hw3⟩ : ∃ w3, w3 = ((w.alloc (.cells #[.int .i64 m] 3)).alloc (.cells #[.pointer none] 156)).alloc (.cells #[.int .i64 0] 3) := ⟨_, rfl⟩
  have e1 : w3.heap[w.heap.size]? = some (intO m) := by rw [hw3]; exact heap_old (heap_old (heap_new w _) _) _
  have e2 : w3.heap[w.heap.size + 1]? = some (nptrO none) := by
    have := heap_old (heap_new (w.alloc (.cells #[.int .i64 m] 3)) (.cells #[.pointer none] 156)) (.cells #[.int .i64 0] 3)
    rw [World.size_alloc] at this
    rw [hw3]; exact this
  have e3 : w3.heap[w.heap.size + 1 + 1]? = some (intO 0) := by
    have := heap_new ((w.alloc (.cells #[.int .i64 m] 3)).alloc (.cells #[.pointer none] 156)) (.cells #[.int .i64 0] 3)
    rw [World.size_alloc, World.size_alloc] at this
    rw [hw3]; exact this
  have hb3 : Below w.heap.size w w3 := by rw [hw3]; exact (((Below.refl w.heap.size w).alloc (Nat.le_refl _) _).alloc (by simp) _).alloc (by simp; omega) _
  have HE := Lib.hid (each_any 101 #[pv w.heap.size, pv (w.heap.size + 1), pv (w.heap.size + 1 + 1)] (w := w3) (q := q) (Ns := Ns) (n := n)
    (fun A w' => Below w.heap.size w w' ∧ (A = [] ∨ (flatN A).length < m) ∧ w.heap.size + 3 ≤ w'.heap.size ∧ w'.heap[w.heap.size]? = some (intO ((m - (flatN A).length : Nat) : Int)) ∧ w'.heap[w.heap.size + 1]? = some (nptrO none) ∧ w'.heap[w.heap.size + 1 + 1]? = some (intO 0))
    (fun w' => ∃ A nd B pl, At Ns m A nd B pl ∧ Below w.heap.size w w' ∧ w'.heap[w.heap.size + 1]? = some (nptrO (some nd.x)) ∧ w'.heap[w.heap.size + 1 + 1]? = some (intO pl))
    (fun _ _ => rfl) (fun A w' hI => h.below hI.1) (fun A nd B hAB w' hI => by
      obtain ⟨i1, i2, i3, i4, i5, i6⟩ := hI
      have hq := h.below i1
      rw [hAB] at hq
      refine (find1_any hq.node (hq.packs nd (by simp)) (by omega) i4 i5 i6 (by omega) (by omega) (by omega)).mono fun e w'' ⟨hc, hp⟩ => ?_
      have hb : Below w.heap.size w w'' := belowChg i1 hc (by omega) fun k hk _ => by omega
      rcases hp with ⟨p1, rfl, p3, p4, p5⟩ | ⟨p1, rfl, p3, p4⟩
      · refine .inl ⟨rfl, hb, .inr ?_, Nat.le_trans i3 hc.size, ?_, p4, p5⟩
        · rw [flat_append, flat_cons, flat_nil, List.append_nil, List.length_append]
          rcases i2 with rfl | i2
          · simpa using p1
          · omega
        · rw [p3]
          congr 3
          rw [flat_append, flat_cons, flat_nil, List.append_nil, List.length_append]
          omega
      · refine .inr ⟨rfl, A, nd, B, m - (flatN A).length, ⟨hAB, ?_, p1, fun hm => ?_⟩, hb, p3, p4⟩
        · rcases i2 with rfl | i2
          · simp
          · omega
        · rcases i2 with rfl | i2
          · simpa using hm
          · omega)
    ⟨hb3, .inl rfl, by rw [hw3]; simp, by simpa using e1, e2, e3⟩)
  have HW := Lib.hid hw3
  have HM := Lib.hid (And.intro h (And.intro hm hb3))
  clear hw3 e1 e2 e3 hb3 h hm
  go_enter Tryz.func95, Tryz.ntmps95
  go_upto_region 1 with (fail)
  rw [← HW.out]
  go_wp2_with fail
  refine HE.out.mono ?_
  rintro e w4 ⟨⟨v, rfl⟩, hpost⟩
  have HP := Lib.hid (show ∃ (o : Option Nat) (pl : Nat), (w4.heap[w.heap.size + 1]? = some (nptrO o) ∧ w4.heap[w.heap.size + 1 + 1]? = some (intO pl)) ∧ Below w.heap.size w w4 ∧ ((Ns = [] ∧ o = none ∧ pl = 0) ∨ ∃ A nd B, At Ns m A nd B pl ∧ o = some nd.x) from by
    rcases hpost with ⟨i1, i2, i3, i4, i5, i6⟩ | ⟨A, nd, B, pl, a1, a2, a3, a4⟩
    · refine ⟨none, 0, ⟨i5, i6⟩, i1, .inl ⟨?_, rfl, rfl⟩⟩
      rcases i2 with i2 | i2
      · exact i2
      · have := HM.out.2.1; omega
    · exact ⟨_, pl, ⟨a3, a4⟩, a2, .inr ⟨A, nd, B, a1, rfl⟩⟩)
  clear hpost
  obtain ⟨o, pl, hc, hb, hd⟩ := HP.out
  obtain ⟨wr, hwr⟩ : ∃ wr, wr = ((w4.setCell ⟨w.heap.size + 1, 0, none⟩ (ptrO o)).setCell ⟨w.heap.size + 1 + 1, 0, none⟩ (.int .i64 pl)).drew := ⟨_, rfl⟩
  have HR := Lib.hid (show Below w.heap.size w wr ∧ wr.cell? ⟨w.heap.size + 1, 0, none⟩ = some (ptrO o) ∧ wr.cell? ⟨w.heap.size + 1 + 1, 0, none⟩ = some (.int .i64 pl) from by
    have k1 : Chg (fun k => w.heap.size ≤ k) w4 (w4.setCell ⟨w.heap.size + 1, 0, none⟩ (ptrO o)) := Chg.setCell _ _ _ _ (show w.heap.size ≤ w.heap.size + 1 by omega)
    have k0 : Chg (fun k => k = w.heap.size + 1) w4 (w4.setCell ⟨w.heap.size + 1, 0, none⟩ (ptrO o)) := Chg.setCell _ _ _ _ rfl
    have k2 : Chg (fun k => k = w.heap.size + 1 + 1) (w4.setCell ⟨w.heap.size + 1, 0, none⟩ (ptrO o)) wr := by rw [hwr]; exact (Chg.setCell (fun k => k = w.heap.size + 1 + 1) _ ⟨w.heap.size + 1 + 1, 0, none⟩ _ rfl).trans (Chg.drew (fun k => k = w.heap.size + 1 + 1) _) fun _ h _ => h
    have hs := heap_lt hc.1
    refine ⟨belowChg (belowChg hb k1 (by omega) fun k hk _ => hk) k2 (by have := k0.size; omega) fun k hk _ => by omega, ?_, ?_⟩
    · exact cell_in (k2.keep (setCell_head hc.1 0 (ptrO o)) (by omega)) rfl
    · rw [hwr]
      exact cell_in (setCell_head (k0.keep hc.2 (by omega)) 0 _) rfl)
  have y1 : w4.cell? ⟨w.heap.size + 1, 0, none⟩ = some (ptrO o) := cell_in hc.1 (i := 0) rfl
  have y2 := cell_in hc.2 (i := 0) rfl
  have f1 := frozen_in hc.1 0
  have f2 := frozen_in hc.2 0
  have HW2 := Lib.hid hwr
  have HD := Lib.hid hd
  have hne : w.heap.size + 1 ≠ w.heap.size + 1 + 1 := by omega
  clear hc hb hd hwr HP
  cases o with
  | none =>
    rw [show ptrO none = .pointer none from rfl] at HW2 HR y1
    go_wp2_with fail
    go_region
    rw [← HW2.out]
    go_wp2_with fail
    refine bodyPost_ret (v := .tuple #[.pointer none, .int .i64 pl]) (by have h1 := HR.out.2.1; have h2 := HR.out.2.2; simp [results, Tryz.results95, go_sem, h1, h2]) rfl ⟨?_, HR.out.1⟩
    rcases HD.out with ⟨d1, _, rfl⟩ | ⟨_, _, _, _, d⟩
    · exact .inl ⟨d1, rfl⟩
    · cases d
  | some x =>
    rw [show ptrO (some x) = pv x from rfl] at HW2 HR y1
    go_wp2_with fail
    go_region
    rw [← HW2.out]
    go_wp2_with fail
    refine bodyPost_ret (v := .tuple #[pv x, .int .i64 pl]) (by have h1 := HR.out.2.1; have h2 := HR.out.2.2; simp [results, Tryz.results95, go_sem, h1, h2]) rfl ⟨?_, HR.out.1⟩
    rcases HD.out with ⟨_, d, _⟩ | ⟨A, nd, B, d1, d⟩
    · cases d
    · cases d
      exact .inr ⟨A, nd, B, pl, d1, rfl⟩
end Go.Proofs.YtlecnlnpgghmbaaGreatDoor

/- quick: link, unlink. -/
namespace Go.Proofs.YtlecnlnpgghmbaaGreatDoor
set_option linter.unusedVariables false
set_option linter.unusedSimpArgs false
open Go.RowKit
theorem node_nF {w : World} {x p p' : Nat} {a b : Option Nat} {F : Nat → Prop} {T : List ByteArray} (hn : w.heap[x]? = some (nodeO p a b)) (hp : PackF w p' F T) : ¬ F x := fun hF => by
  obtain ⟨cs, E, fz, e2, hE⟩ := hp.kind hF
  rw [hn] at e2
  injection e2 with e2
  injection e2 with _ e3 _
  rcases hE with rfl | rfl <;> exact absurd e3 (by decide)
theorem quick_nF {w : World} {q p' : Nat} {a b : Option Nat} {n : Int} {F : Nat → Prop} {T : List ByteArray} (hn : w.heap[q]? = some (quickO a b n)) (hp : PackF w p' F T) : ¬ F q := fun hF => by
  obtain ⟨cs, E, fz, e2, hE⟩ := hp.kind hF
  rw [hn] at e2
  injection e2 with e2
  injection e2 with _ e3 _
  rcases hE with rfl | rfl <;> exact absurd e3 (by decide)
set_option maxHeartbeats 1600000 in
set_option maxRecDepth 100000 in
theorem link_first {w : World} {q : Nat} {n : Int} (h : QRow w q [] n) {p : Nat} {F : Nat → Prop} (hp : PackF w p F []) :
    Calls Tryz.prog 94 #[pv q, .pointer none, pv p] w fun e w' => e = .returned (pv w.heap.size) ∧ QRow w' q [⟨w.heap.size, p, F, []⟩] n ∧ Chg (fun k => k = q) w w' := by
  have hql := heap_lt h.head
  obtain ⟨w1, hw1⟩ : ∃ w1, w1 = w.alloc (.cells #[pv p, .pointer none, .pointer none] 163) := ⟨_, rfl⟩
  have hb1 : Below w.heap.size w w1 := by rw [hw1]; exact (Below.refl _ _).alloc (Nat.le_refl _) _
  have hh1 : w1.heap[w.heap.size]? = some (nodeO p none none) := by rw [hw1]; exact heap_new _ _
  have hq0 := h.head
  have hq1 : w1.heap[q]? = some (quickO none none n) := (hb1.block q hql).trans h.head
  obtain ⟨w2, hw2⟩ : ∃ w2, w2 = w1.setCell ⟨q, 1, none⟩ (pv w.heap.size) := ⟨_, rfl⟩
  have hc2 : Chg (fun k => k = q) w1 w2 := by rw [hw2]; exact Chg.setCell _ _ _ _ rfl
  have hq2 : w2.heap[q]? = some (quickO (some w.heap.size) none n) := by rw [hw2]; exact setCell_head hq1 1 _
  obtain ⟨w3, hw3⟩ : ∃ w3, w3 = w2.setCell ⟨q, 2, none⟩ (pv w.heap.size) := ⟨_, rfl⟩
  have hc3 : Chg (fun k => k = q) w2 w3 := by rw [hw3]; exact Chg.setCell _ _ _ _ rfl
  have hq3 : w3.heap[q]? = some (quickO (some w.heap.size) (some w.heap.size) n) := by rw [hw3]; exact setCell_head hq2 2 _
  have hne : w.heap.size ≠ q := by omega
  have hh2 := hc2.keep hh1 hne
  have hh3 := hc3.keep hh2 hne
  have hc : Chg (fun k => k = q) w w3 := ((Chg.of_below _ hb1).trans hc2 fun k hk _ => hk).trans hc3 fun k hk _ => hk
  have HF := Lib.hid (show QRow w3 q [⟨w.heap.size, p, F, []⟩] n ∧ Chg (fun k => k = q) w w3 from
    ⟨h.link0 hc hq3 hh3 (hp.chg hc fun k hk e => by subst e; exact quick_nF h.head hp hk), hc⟩)
  have a1 := cell_in hq0 (i := 1) rfl
  have b1 := cell_in hq1 (i := 1) rfl
  have f1 := frozen_in hq1 1
  have c2 := cell_in hh2 (i := 2) rfl
  have d2 := cell_in hq2 (i := 2) rfl
  have f2 := frozen_in hq2 2
  have HW1 := Lib.hid hw1
  have HW2 := Lib.hid hw2
  have HW3 := Lib.hid hw3
  simp only [hdO, lstO, ptrO] at a1 b1 c2 d2
  clear h hp hw1 hw2 hw3 hb1 hh1 hq0 hq1 hc2 hq2 hc3 hq3 hh2 hh3 hc
  go_enter Tryz.func94, Tryz.ntmps94
  go_upto_region 2 with (fail)
  rw [← HW1.out]
  go_upto_region 5 with (fail)
  rw [← HW2.out]
  go_wp2_with fail
  rw [← HW3.out]
  go_ret
  exact ⟨rfl, HF.out⟩
set_option maxHeartbeats 1600000 in
set_option maxRecDepth 100000 in
theorem link_mid {w : World} {q : Nat} {A B : List Nd} {nd : Nd} {n : Int} (h : QRow w q (A ++ nd :: B) n) {p : Nat} {F : Nat → Prop} (hp : PackF w p F []) (hF : ∀ u ∈ A ++ nd :: B, ∀ k, u.F k → ¬ F k) :
    Calls Tryz.prog 94 #[pv q, pv nd.x, pv p] w fun e w' => e = .returned (pv w.heap.size) ∧ QRow w' q (A ++ nd :: ⟨w.heap.size, p, F, []⟩ :: B) n ∧ Chg (fun k => k = q ∨ ∃ u ∈ nd :: B, k = u.x) w w' := by
  have hql := heap_lt h.head
  have hnode := h.node
  have hxl := heap_lt hnode
  have hxq : nd.x ≠ q := h.q_nx (by simp)
  obtain ⟨x0, hx0⟩ : ∃ x0, hdO (A ++ nd :: B) none = some x0 := by cases A <;> exact ⟨_, rfl⟩
  have hfv : ptrO (hdO (A ++ nd :: B) none) = pv x0 := by rw [hx0]; rfl
  obtain ⟨nv, hnv⟩ : ∃ nv, ptrO (hdO B none) = nv := ⟨_, rfl⟩
  obtain ⟨av, hav⟩ : ∃ av, ptrO (lstO none A) = av := ⟨_, rfl⟩
  obtain ⟨w1, hw1⟩ : ∃ w1, w1 = w.alloc (.cells #[pv p, pv nd.x, pv x0] 163) := ⟨_, rfl⟩
  have hb1 : Below w.heap.size w w1 := by rw [hw1]; exact (Below.refl _ _).alloc (Nat.le_refl _) _
  have hh1 : w1.heap[w.heap.size]? = some (.cells #[pv p, pv nd.x, pv x0] 163 (0, 0)) := by rw [hw1]; exact heap_new _ _
  have hx1 := (hb1.block nd.x hxl).trans hnode
  obtain ⟨w2, hw2⟩ : ∃ w2, w2 = (w1.setCell ⟨w.heap.size, 2, none⟩ nv).setCell ⟨nd.x, 2, none⟩ (pv w.heap.size) := ⟨_, rfl⟩
  have hxy : nd.x ≠ w.heap.size := by omega
  have hcy : Chg (fun k => k = w.heap.size) w1 (w1.setCell ⟨w.heap.size, 2, none⟩ nv) := Chg.setCell _ _ _ _ rfl
  have hcx : Chg (fun k => k = nd.x) (w1.setCell ⟨w.heap.size, 2, none⟩ nv) w2 := by rw [hw2]; exact Chg.setCell _ _ _ _ rfl
  have hy2 : w2.heap[w.heap.size]? = some (nodeO p (some nd.x) (hdO B none)) := by
    refine hcx.keep ?_ (Ne.symm hxy)
    rw [setCell_head hh1 2 nv, ← hnv]; rfl
  have hx2 : w2.heap[nd.x]? = some (nodeO nd.p (lstO none A) (some w.heap.size)) := by
    rw [hw2, setCell_head (hcy.keep hx1 hxy) 2 _]; rfl
  have hc2 : Chg (fun k => k = nd.x) w w2 := ((Chg.of_below (fun k => k = nd.x) hb1).trans hcy fun k hk hlt => by omega).trans hcx fun k hk _ => hk
  have hq2 := hc2.keep h.head (Ne.symm hxq)
  have a1 : w.cell? ⟨q, 1, none⟩ = some (ptrO (hdO (A ++ nd :: B) none)) := cell_in h.head (i := 1) rfl
  have b2 : w1.cell? ⟨nd.x, 2, none⟩ = some (ptrO (hdO B none)) := cell_in hx1 (i := 2) rfl
  have cy := cell_in hh1 (i := 2) rfl
  have cx := cell_in (hcy.keep hx1 hxy) (i := 2) rfl
  have fy := frozen_in hh1 2
  have fx := frozen_in (hcy.keep hx1 hxy) 2
  have y2 : w2.cell? ⟨w.heap.size, 2, none⟩ = some (ptrO (hdO B none)) := cell_in hy2 (i := 2) rfl
  rw [hfv] at a1
  rw [hnv] at b2 y2
  have HW1 := Lib.hid hw1
  have HW2 := Lib.hid hw2
  have HC2 := Lib.hid hc2
  cases B with
  | nil =>
    obtain ⟨w3, hw3⟩ : ∃ w3, w3 = w2.setCell ⟨q, 2, none⟩ (pv w.heap.size) := ⟨_, rfl⟩
    have hc3 : Chg (fun k => k = q) w2 w3 := by rw [hw3]; exact Chg.setCell _ _ _ _ rfl
    have hq3 : w3.heap[q]? = some (quickO (hdO (A ++ [nd]) none) (some w.heap.size) n) := by rw [hw3, setCell_head hq2 2 _]; rfl
    have hc : Chg (fun k => k = q ∨ k = nd.x) w w3 := (hc2.mono fun k hk _ => .inr hk).trans hc3 fun k hk _ => .inl hk
    have HF := Lib.hid (show QRow w3 q (A ++ [nd, ⟨w.heap.size, p, F, []⟩]) n ∧ Chg (fun k => k = q ∨ ∃ u ∈ [nd], k = u.x) w w3 from by
      refine ⟨h.link hc (fun k hk => hk.imp id .inl) ?_ (hc3.keep hx2 hxq) (hc3.keep hy2 (by omega)) (by simp) (hp.chg hc fun k hk e => ?_) hF, hc.mono fun k hk _ => by simpa using hk⟩
      · rw [hq3]
        congr 2
        rw [show A ++ [nd, (⟨w.heap.size, p, F, []⟩ : Nd)] = (A ++ [nd]) ++ [⟨w.heap.size, p, F, []⟩] by simp, lstO_last]
      · rcases e with rfl | rfl
        · exact quick_nF h.head hp hk
        · exact node_nF hnode hp hk)
    have d2 := cell_in hq2 (i := 2) rfl
    have f2 := frozen_in hq2 2
    have HW3 := Lib.hid hw3
    simp only [hdO, ptrO] at hnv
    subst hnv
    clear h hp hw1 hw2 hw3 hb1 hh1 hnode hx1 hcy hcx hy2 hx2 hc2 hq2 hc3 hq3 hc hF
    go_enter Tryz.func94, Tryz.ntmps94
    go_upto_region 2 with (fail)
    rw [← HW1.out]
    go_upto_region 5 with (fail)
    rw [← HW2.out]
    go_wp2_with fail
    rw [← HW3.out]
    go_ret
    exact ⟨rfl, HF.out⟩
  | cons v B' =>
    have hvl : v ∈ A ++ nd :: v :: B' := by simp
    have hxv : nd.x ≠ v.x := (xs_mid h.xs).2.1 v (by simp)
    have hvn : w.heap[v.x]? = some (nodeO v.p (some nd.x) (hdO B' none)) := by
      have := QRow.node (A := A ++ [nd]) (nd := v) (B := B') (by simpa using h)
      rw [lstO_last] at this
      exact this
    have hv2 := hc2.keep hvn (Ne.symm hxv)
    obtain ⟨w3, hw3⟩ : ∃ w3, w3 = w2.setCell ⟨v.x, 1, none⟩ (pv w.heap.size) := ⟨_, rfl⟩
    have hc3 : Chg (fun k => k = v.x) w2 w3 := by rw [hw3]; exact Chg.setCell _ _ _ _ rfl
    have hv3 : w3.heap[v.x]? = some (nodeO v.p (some w.heap.size) (hdO B' none)) := by rw [hw3, setCell_head hv2 1 _]; rfl
    have hc : Chg (fun k => k = nd.x ∨ k = v.x) w w3 := (hc2.mono fun k hk _ => .inl hk).trans hc3 fun k hk _ => .inr hk
    have HF := Lib.hid (show QRow w3 q (A ++ nd :: ⟨w.heap.size, p, F, []⟩ :: v :: B') n ∧ Chg (fun k => k = q ∨ ∃ u ∈ nd :: v :: B', k = u.x) w w3 from by
      refine ⟨h.link hc (fun k hk => ?_) ?_ (hc3.keep hx2 hxv) (hc3.keep hy2 (by have := heap_lt hvn; omega)) (fun v2 B2 e => ?_) (hp.chg hc fun k hk e => ?_) hF, hc.mono fun k hk _ => .inr ?_⟩
      · rcases hk with rfl | rfl
        · exact .inr (.inl rfl)
        · exact .inr (.inr ⟨v, B', rfl, rfl⟩)
      · rw [hc3.keep hq2 (Ne.symm (h.q_nx hvl))]
        congr 2
        rw [lstO_append, lstO_append]; rfl
      · obtain ⟨rfl, rfl⟩ := List.cons.inj e
        exact hv3
      · rcases e with rfl | rfl
        · exact node_nF hnode hp hk
        · exact node_nF hvn hp hk
      · rcases hk with rfl | rfl
        · exact ⟨nd, by simp, rfl⟩
        · exact ⟨v, by simp, rfl⟩)
    have d2 := cell_in hv2 (i := 1) rfl
    have f2 := frozen_in hv2 1
    have HW3 := Lib.hid hw3
    have hnv' : nv = pv v.x := by rw [← hnv]; rfl
    subst hnv'
    clear h hp hw1 hw2 hw3 hb1 hh1 hnode hx1 hcy hcx hy2 hx2 hc2 hq2 hc3 hc hF hvn hv2 hv3 hnv
    go_enter Tryz.func94, Tryz.ntmps94
    go_upto_region 2 with (fail)
    rw [← HW1.out]
    go_upto_region 5 with (fail)
    rw [← HW2.out]
    go_wp2_with fail
    rw [← HW3.out]
    go_ret
    exact ⟨rfl, HF.out⟩
end Go.Proofs.YtlecnlnpgghmbaaGreatDoor

/- quick: unlink. -/
namespace Go.Proofs.YtlecnlnpgghmbaaGreatDoor
set_option linter.unusedVariables false
set_option linter.unusedSimpArgs false
open Go.RowKit
set_option maxHeartbeats 3200000 in
set_option maxRecDepth 100000 in
theorem unlink_any {w : World} {q : Nat} {A B : List Nd} {nd : Nd} {n : Int} (h : QRow w q (A ++ nd :: B) n) :
    Calls Tryz.prog 172 #[pv q, pv nd.x] w fun e w' => (∃ v, e = .returned v) ∧ QRow w' q (A ++ B) n ∧ Chg (fun k => k = q ∨ ∃ u ∈ A ++ B, k = u.x) w w' := by
  have hnode := h.node
  have hxq : nd.x ≠ q := h.q_nx (by simp)
  have hxs := xs_mid h.xs
  have n1 : w.cell? ⟨nd.x, 1, none⟩ = some (ptrO (lstO none A)) := cell_in hnode (i := 1) rfl
  have n2 : w.cell? ⟨nd.x, 2, none⟩ = some (ptrO (hdO B none)) := cell_in hnode (i := 2) rfl
  have q1 := cell_in h.head (i := 1) rfl
  have q2 := cell_in h.head (i := 2) rfl
  have fq1 := frozen_in h.head 1
  have fq2 := frozen_in h.head 2
  rcases List.eq_nil_or_concat A with rfl | ⟨A', u, hA⟩
  · cases B with
    | nil =>
      obtain ⟨w2, hw2⟩ : ∃ w2, w2 = w.setCell ⟨q, 1, none⟩ (.pointer none) := ⟨_, rfl⟩
      have hc2 : Chg (fun k => k = q) w w2 := by rw [hw2]; exact Chg.setCell _ _ _ _ rfl
      have hq2 : w2.heap[q]? = some (quickO none (some nd.x) n) := by rw [hw2]; exact setCell_head h.head 1 _
      obtain ⟨w3, hw3⟩ : ∃ w3, w3 = w2.setCell ⟨q, 2, none⟩ (.pointer none) := ⟨_, rfl⟩
      have hc3 : Chg (fun k => k = q) w2 w3 := by rw [hw3]; exact Chg.setCell _ _ _ _ rfl
      have hq3 : w3.heap[q]? = some (quickO none none n) := by rw [hw3]; exact setCell_head hq2 2 _
      have hc : Chg (fun k => k = q) w w3 := hc2.trans hc3 fun _ h _ => h
      have HF := Lib.hid (show QRow w3 q ([] ++ []) n ∧ Chg (fun k => k = q ∨ ∃ u ∈ ([] : List Nd) ++ [], k = u.x) w w3 from
        ⟨h.unlink hc (fun k hk => .inl hk) hq3 (fun A' u e => by simp at e) (fun v B' e => by cases e), hc.mono fun k hk _ => .inl hk⟩)
      have d2 := cell_in hq2 (i := 2) rfl
      have f2 := frozen_in hq2 2
      have m1 : w2.cell? ⟨nd.x, 1, none⟩ = some (.pointer none) := cell_in (hc2.keep hnode hxq) (i := 1) rfl
      have m2 : w2.cell? ⟨nd.x, 2, none⟩ = some (.pointer none) := cell_in (hc2.keep hnode hxq) (i := 2) rfl
      have HW2 := Lib.hid hw2
      have HW3 := Lib.hid hw3
      rw [show ptrO (lstO none []) = .pointer none from rfl] at n1
      rw [show ptrO (hdO [] none) = .pointer none from rfl] at n2
      clear h hnode hxs hw2 hc2 hq2 hw3 hc3 hq3 hc
      go_enter Tryz.func172, Tryz.ntmps172
      go_upto_region 3 with (fail)
      rw [← HW2.out]
      go_wp2_with fail
      rw [← HW3.out]
      go_end0
      exact ⟨⟨_, rfl⟩, HF.out⟩
    | cons v B' =>
      have hvn : w.heap[v.x]? = some (nodeO v.p (some nd.x) (hdO B' none)) := QRow.node (A := [nd]) (nd := v) (B := B') h
      have hxv : nd.x ≠ v.x := hxs.2.1 v (by simp)
      have hvq : v.x ≠ q := h.q_nx (by simp)
      obtain ⟨w2, hw2⟩ : ∃ w2, w2 = w.setCell ⟨q, 1, none⟩ (pv v.x) := ⟨_, rfl⟩
      have hc2 : Chg (fun k => k = q) w w2 := by rw [hw2]; exact Chg.setCell _ _ _ _ rfl
      have hq2 : w2.heap[q]? = some (quickO (some v.x) (lstO none ([] ++ nd :: v :: B')) n) := by rw [hw2]; exact setCell_head h.head 1 _
      have hv2 := hc2.keep hvn hvq
      obtain ⟨w3, hw3⟩ : ∃ w3, w3 = (w2.setCell ⟨v.x, 1, none⟩ (.pointer none)).drew := ⟨_, rfl⟩
      have hc3 : Chg (fun k => k = v.x) w2 w3 := by rw [hw3]; exact (Chg.setCell (fun k => k = v.x) w2 ⟨v.x, 1, none⟩ _ rfl).trans (Chg.drew _ _) fun _ h _ => h
      have hv3 : w3.heap[v.x]? = some (nodeO v.p none (hdO B' none)) := by rw [hw3]; exact setCell_head hv2 1 _
      have hc : Chg (fun k => k = q ∨ k = v.x) w w3 := (hc2.mono fun k hk _ => .inl hk).trans hc3 fun k hk _ => .inr hk
      have HF := Lib.hid (show QRow w3 q ([] ++ v :: B') n ∧ Chg (fun k => k = q ∨ ∃ u ∈ [] ++ v :: B', k = u.x) w w3 from by
        refine ⟨h.unlink hc (fun k hk => hk.imp id fun e => .inr ⟨v, B', rfl, e⟩) (hc3.keep hq2 (Ne.symm hvq)) (fun A' u e => by simp at e) (fun v2 B2 e => ?_), hc.mono fun k hk _ => hk.imp id fun e => ⟨v, by simp, e⟩⟩
        obtain ⟨rfl, rfl⟩ := List.cons.inj e
        exact hv3)
      have d2 := cell_in hv2 (i := 1) rfl
      have f2 := frozen_in hv2 1
      have m1 : w2.cell? ⟨nd.x, 1, none⟩ = some (.pointer none) := cell_in (hc2.keep hnode hxq) (i := 1) rfl
      have m2 : w2.cell? ⟨nd.x, 2, none⟩ = some (pv v.x) := cell_in (hc2.keep hnode hxq) (i := 2) rfl
      have HW2 := Lib.hid hw2
      have HW3 := Lib.hid hw3
      rw [show ptrO (lstO none []) = .pointer none from rfl] at n1
      rw [show ptrO (hdO (v :: B') none) = pv v.x from rfl] at n2
      clear h hnode hxs hw2 hc2 hq2 hw3 hc3 hc hv2 hv3 hvn
      go_enter Tryz.func172, Tryz.ntmps172
      go_upto_region 3 with (fail)
      rw [← HW2.out]
      go_wp2_with fail
      go_region
      rw [← HW3.out]
      go_wp2_with fail
      go_end0
      exact ⟨⟨_, rfl⟩, HF.out⟩
  · rw [List.concat_eq_append] at hA
    subst hA
    have hun : w.heap[u.x]? = some (nodeO u.p (lstO none A') (some nd.x)) := by
      have := QRow.node (A := A') (nd := u) (B := nd :: B) (by simpa using h)
      exact this
    have hux : u.x ≠ nd.x := hxs.1 u (by simp)
    have huq : u.x ≠ q := h.q_nx (by simp)
    rw [lstO_last] at n1 hnode
    cases B with
    | nil =>
      obtain ⟨w2, hw2⟩ : ∃ w2, w2 = (w.setCell ⟨u.x, 2, none⟩ (.pointer none)).drew := ⟨_, rfl⟩
      have hc2 : Chg (fun k => k = u.x) w w2 := by rw [hw2]; exact (Chg.setCell (fun k => k = u.x) w ⟨u.x, 2, none⟩ _ rfl).trans (Chg.drew _ _) fun _ h _ => h
      have hu2 : w2.heap[u.x]? = some (nodeO u.p (lstO none A') none) := by rw [hw2]; exact setCell_head hun 2 _
      have hq2 := hc2.keep h.head (Ne.symm huq)
      obtain ⟨w3, hw3⟩ : ∃ w3, w3 = w2.setCell ⟨q, 2, none⟩ (pv u.x) := ⟨_, rfl⟩
      have hc3 : Chg (fun k => k = q) w2 w3 := by rw [hw3]; exact Chg.setCell _ _ _ _ rfl
      have hq3 : w3.heap[q]? = some (quickO (hdO (A' ++ [u] ++ [nd]) none) (some u.x) n) := by rw [hw3]; exact setCell_head hq2 2 _
      have hc : Chg (fun k => k = q ∨ k = u.x) w w3 := (hc2.mono fun k hk _ => .inr hk).trans hc3 fun k hk _ => .inl hk
      have HF := Lib.hid (show QRow w3 q (A' ++ [u] ++ []) n ∧ Chg (fun k => k = q ∨ ∃ v ∈ A' ++ [u] ++ [], k = v.x) w w3 from by
        refine ⟨h.unlink hc (fun k hk => hk.imp id fun e => .inl ⟨A', u, rfl, e⟩) ?_ (fun A2 u2 e => ?_) (fun v2 B2 e => by cases e), hc.mono fun k hk _ => hk.imp id fun e => ⟨u, by simp, e⟩⟩
        · rw [hq3]
          congr 2
          · rw [List.append_nil, hdO_append, hdO_append, hdO_append]; rfl
          · rw [List.append_nil, lstO_last]
        · obtain ⟨e1, e2⟩ := List.append_inj' e rfl
          obtain ⟨rfl, _⟩ := List.cons.inj e2
          subst e1
          exact hc3.keep hu2 huq)
      have d2 := cell_in hq2 (i := 2) rfl
      have f2 := frozen_in hq2 2
      have u2 := cell_in hun (i := 2) rfl
      have fu := frozen_in hun 2
      have m1 : w2.cell? ⟨nd.x, 1, none⟩ = some (pv u.x) := cell_in (hc2.keep hnode (Ne.symm hux)) (i := 1) rfl
      have m2 : w2.cell? ⟨nd.x, 2, none⟩ = some (.pointer none) := cell_in (hc2.keep hnode (Ne.symm hux)) (i := 2) rfl
      have HW2 := Lib.hid hw2
      have HW3 := Lib.hid hw3
      rw [show ptrO (some u.x) = pv u.x from rfl] at n1
      rw [show ptrO (hdO [] none) = .pointer none from rfl] at n2
      clear h hnode hxs hw2 hc2 hq2 hw3 hc3 hc hu2 hun hq3
      go_enter Tryz.func172, Tryz.ntmps172
      go_wp2_with fail
      go_region
      rw [← HW2.out]
      go_wp2_with fail
      rw [← HW3.out]
      go_end0
      exact ⟨⟨_, rfl⟩, HF.out⟩
    | cons v B' =>
      have hvn : w.heap[v.x]? = some (nodeO v.p (some nd.x) (hdO B' none)) := by
        have := QRow.node (A := A' ++ [u] ++ [nd]) (nd := v) (B := B') (by simpa using h)
        rw [lstO_last] at this; exact this
      have hxv : nd.x ≠ v.x := hxs.2.1 v (by simp)
      have hvq : v.x ≠ q := h.q_nx (by simp)
      have huv : u.x ≠ v.x := hxs.2.2 u (by simp) v (by simp)
      obtain ⟨w2, hw2⟩ : ∃ w2, w2 = (w.setCell ⟨u.x, 2, none⟩ (pv v.x)).drew := ⟨_, rfl⟩
      have hc2 : Chg (fun k => k = u.x) w w2 := by rw [hw2]; exact (Chg.setCell (fun k => k = u.x) w ⟨u.x, 2, none⟩ _ rfl).trans (Chg.drew _ _) fun _ h _ => h
      have hu2 : w2.heap[u.x]? = some (nodeO u.p (lstO none A') (some v.x)) := by rw [hw2]; exact setCell_head hun 2 _
      have hv2 := hc2.keep hvn (Ne.symm huv)
      obtain ⟨w3, hw3⟩ : ∃ w3, w3 = (w2.setCell ⟨v.x, 1, none⟩ (pv u.x)).drew := ⟨_, rfl⟩
      have hc3 : Chg (fun k => k = v.x) w2 w3 := by rw [hw3]; exact (Chg.setCell (fun k => k = v.x) w2 ⟨v.x, 1, none⟩ _ rfl).trans (Chg.drew _ _) fun _ h _ => h
      have hv3 : w3.heap[v.x]? = some (nodeO v.p (some u.x) (hdO B' none)) := by rw [hw3]; exact setCell_head hv2 1 _
      have hc : Chg (fun k => k = u.x ∨ k = v.x) w w3 := (hc2.mono fun k hk _ => .inl hk).trans hc3 fun k hk _ => .inr hk
      have HF := Lib.hid (show QRow w3 q (A' ++ [u] ++ v :: B') n ∧ Chg (fun k => k = q ∨ ∃ x ∈ A' ++ [u] ++ v :: B', k = x.x) w w3 from by
        refine ⟨h.unlink hc (fun k hk => ?_) ?_ (fun A2 u2 e => ?_) (fun v2 B2 e => ?_), hc.mono fun k hk _ => .inr ?_⟩
        · rcases hk with rfl | rfl
          · exact .inr (.inl ⟨A', u, rfl, rfl⟩)
          · exact .inr (.inr ⟨v, B', rfl, rfl⟩)
        · rw [hc.keep h.head (fun e => e.elim (fun e => huq e.symm) fun e => hvq e.symm)]
          congr 2
          · rw [hdO_append, hdO_append, hdO_append, hdO_append]; rfl
          · rw [lstO_append (A' ++ [u]), lstO_append (A' ++ [u])]; rfl
        · obtain ⟨e1, e2⟩ := List.append_inj' e rfl
          obtain ⟨rfl, _⟩ := List.cons.inj e2
          subst e1
          exact hc3.keep hu2 huv
        · obtain ⟨rfl, rfl⟩ := List.cons.inj e
          rw [lstO_last]
          exact hv3
        · rcases hk with rfl | rfl
          · exact ⟨u, by simp, rfl⟩
          · exact ⟨v, by simp, rfl⟩)
      have d2 := cell_in hv2 (i := 1) rfl
      have f2 := frozen_in hv2 1
      have u2 := cell_in hun (i := 2) rfl
      have fu := frozen_in hun 2
      have m1 : w2.cell? ⟨nd.x, 1, none⟩ = some (pv u.x) := cell_in (hc2.keep hnode (Ne.symm hux)) (i := 1) rfl
      have m2 : w2.cell? ⟨nd.x, 2, none⟩ = some (pv v.x) := cell_in (hc2.keep hnode (Ne.symm hux)) (i := 2) rfl
      have HW2 := Lib.hid hw2
      have HW3 := Lib.hid hw3
      rw [show ptrO (some u.x) = pv u.x from rfl] at n1
      rw [show ptrO (hdO (v :: B') none) = pv v.x from rfl] at n2
      clear h hnode hxs hw2 hc2 hw3 hc3 hc hu2 hun hv2 hv3 hvn
      go_enter Tryz.func172, Tryz.ntmps172
      go_wp2_with fail
      go_region
      rw [← HW2.out]
      go_wp2_with fail
      go_region
      rw [← HW3.out]
      go_wp2_with fail
      go_end0
      exact ⟨⟨_, rfl⟩, HF.out⟩
end Go.Proofs.YtlecnlnpgghmbaaGreatDoor

/- Regions that draw their order inside a round of a range over a function: Reg's walk serves there too. -/
namespace Go.Proofs.YtlecnlnpgghmbaaGreatDoor
set_option linter.unusedVariables false
set_option linter.unusedSimpArgs false
/-- No 'defer'. -/
def noDefer (o : Oper) : Bool := match o.op with
  | .defer _ => false
  | .call _ | .go _ | .send .. | .recv .. | .select .. => true
  | _ => true
theorem noDefer_spec {o : Oper} (h : noDefer o = true) : ∀ c, o.op ≠ .defer c := by
  intro c hc
  unfold noDefer at h
  rw [hc] at h
  cases h
theorem rowsIn_wide' {n : Nat} {P : Program} {row : String} {args : Array Value} {w : World} {R : Value → World → Prop} {l : Nat} (h : Rows P row args w R) : RowsIn (Fence.wide.inRound l) n P row args w R := by
  intro c cs _
  obtain ⟨v, w', r, s⟩ := h c cs
  exact ⟨v, w', r, stepsIn_wide.2 s⟩
theorem callsIn_round {n : Nat} {P : Program} {f : FuncId} {args : Array Value} {w : World} {R : Ending → World → Prop} {l : Nat} (h : Calls P f args w R) : CallsIn (Fence.wide.inRound l) n P f args w R := callsIn_wide.2 h
section
variable {P : Program} {ops : Array Oper} {md : Region.Mode} {C : World → Prop} {Q : Act → World → Prop} {p : Plan}
theorem wpAnyIn_of_C {l n : Nat} {Q' : Exit → Act → World → Prop} (hnd : ∀ (i : Nat) (o : Oper), ops[i]? = some o → noDefer o = true) (hQ : ∀ a w, Q a w → Q' .normal a w) (hp : p.before md ops) : ∀ (fuel : Nat) (listed : Array Bool) (a : Act) (w : World), Closed md ops listed → listed.size = ops.size →
    wpAnyC P md ops p C Q fuel listed a w → wpAnyIn (Fence.wide.inRound l) n P md ops Q' fuel listed a w
  | 0, _, _, _, _, _, h => ⟨h.2.1, hQ _ _ h.2.2⟩
  | fuel + 1, listed, a, w, hcl, hsz, h => ⟨fun h0 => hQ _ _ (h.2.1 h0), fun i hi => by
      have h1 := h.2.2 i hi
      obtain ⟨hiun, o, ho, _⟩ := mem_ready.1 hi
      have next := fun a' w' => wpAnyIn_of_C (l := l) (n := n) hnd hQ hp fuel (listed.setIfInBounds i true) a' w' (hcl.set hi) (by simp [hsz])
      have hsem := Oper.semAt_eq (Fence.wide.inRound l).round a.eval o (noDefer_spec (hnd i o ho))
      unfold stepC at h1
      unfold wpOpIn
      simp only [ho] at h1 ⊢
      by_cases hl : p.L.contains i = true
      · simp only [hl, if_true] at h1
        unfold loudOp at h1
        split
        · rename_i hw
          simp only [hw, if_true] at h1
          unfold Oper.wp at h1
          unfold Oper.wpIn
          refine ⟨fun _ _ => trivial, ?_⟩
          rw [hsem]
          generalize (execOp a.eval o).run P w = r at *
          cases r with
          | ok n w' =>
            cases n <;> simp only [Oper.upon] at h1 <;> simp only [Oper.uponIn]
            case value u => exact next _ _ h1
            case skip => exact next _ _ h1
            case defer d => exact next _ _ h1
            case enter f args =>
              refine ⟨fun h => (by simp [Fence.wide] at h), CallsIn.mono (callsIn_round h1) fun e w'' he => ?_⟩
              cases e with
              | returned u => exact next _ _ he
              | panicked c => exact he.elim
              | outgrown => obtain ⟨_, _, he⟩ := he; exact he.elim
            case row row args => exact ⟨fun h => (by simp [Fence.wide] at h), RowsIn.mono (rowsIn_wide' h1) fun u w'' he => next _ _ he⟩
          | halt x w' => cases x <;> simp only [Oper.upon, QF] at h1
        · rename_i hw
          simp only [hw] at h1
          exact ⟨fun _ _ => trivial, next _ _ h1⟩
      · simp only [hl] at h1
        obtain ⟨v, hy, hK⟩ := h1
        have hiL : i ∉ p.L := by simpa using hl
        have hilt : i < ops.size := (Array.getElem?_eq_some_iff.1 ho).1
        have hc := cls_holds hp hcl hsz hiL hilt (unl hiun) h.1
        rcases hy with ⟨hw, hv⟩ | ⟨hw, rfl⟩
        · simp only [hw, if_true]
          unfold Oper.wpIn
          refine ⟨fun _ _ => trivial, ?_⟩
          rw [hsem]
          rcases hv w hc with hv1 | ⟨hv1, hu⟩
          · rw [hv1]; exact next _ _ hK
          · subst hu; rw [hv1]; exact next _ _ hK
        · simp only [hw, Bool.false_eq_true, if_false]; exact ⟨fun _ _ => trivial, next _ _ hK⟩⟩
/-- **A REGION THAT DRAWS ITS ORDER, INSIDE A ROUND, WALKED IN THE TEXT's ORDER.** -/
theorem wpIn_region_text {l0 n id : Nat} {Q' : Exit → Act → World → Prop} {a : Act} {w : World} {l : List Oper} (p : Plan) (C : World → Prop) (hm : P.follows .mixedOrders = true) (hB : p.okB .any l.toArray = true) (hnd : l.all noDefer = true)
    (hC : C w.drew) (h : wpC P l.toArray p C (fun a' w' => Q' .normal a' w') 0 l a w.drew) : (Code.region id l.toArray true).wpIn (Fence.wide.inRound l0) n P Q' a w := by
  simp only [Plan.okB, Region.lexB, Bool.and_eq_true, Bool.or_eq_true, decide_eq_true_eq, List.all_eq_true, List.mem_range] at hB
  obtain ⟨⟨⟨hs, hlex⟩, hm'⟩, hall⟩ := hB
  have hmL : p.m < l.toArray.size → p.m ∈ p.L := fun h1 => by
    rcases hm' with h2 | h2
    · omega
    · simpa using h2
  have hbef : p.before .any l.toArray := fun i hiL hiD hilt => by
    have h1 := hall i hilt
    simp only [show p.L.contains i = false by simpa using hiL, show p.D.contains i = false by simpa using hiD, Bool.false_eq_true, if_false, Bool.false_or, Bool.or_eq_true, decide_eq_true_eq, Bool.and_eq_true, bne_iff_ne] at h1
    rcases h1 with h1 | h1
    · exact .inl h1
    · exact .inr ⟨h1.1, depB_spec _ _ h1.2⟩
  have hord : ∀ k j, k ∈ p.L → j ∈ p.L → k < j → j < l.toArray.size → Dep .any l.toArray k j := fun k j hk hj hkj hjlt => by
    have h1 := hall j hjlt
    simp only [show p.L.contains j = true by simpa using hj, if_true, List.all_eq_true, Bool.or_eq_true, decide_eq_true_eq] at h1
    rcases h1 k hk with (h2 | h2) | h2
    · omega
    · omega
    · exact depB_spec _ _ h2
  have hcl : Closed Region.Mode.any l.toArray (Array.replicate l.toArray.size false) := fun j o _ hl' => by
    rcases Nat.lt_or_ge j l.toArray.size with h1 | h1 <;> simp_all
  refine wpIn_region_any hm (wpAnyIn_of_C (Q := fun a' w' => Q' .normal a' w') (p := p) (C := C) (fun i o ho => ?_) (fun _ _ h => h) hbef _ _ _ _ hcl (by simp) ?_)
  · have := List.all_eq_true.1 hnd o
    exact this (by
      have h1 := Array.mem_of_getElem? ho
      simpa using h1)
  have := wpAnyC_lex (C := C) hs hbef hmL hord l 0 (Array.replicate l.toArray.size false) a { w with drawn := w.drawn + 1 } (by simp) (by simp) hcl (by simp)
    (fun j hj => by simp_all) (by simpa using hlex) (fun _ => hC) h
  simpa using this
end
end Go.Proofs.YtlecnlnpgghmbaaGreatDoor

/- Appending texts of a slice to texts that a call has made. -/
namespace Go.Proofs.YtlecnlnpgghmbaaGreatDoor
set_option linter.unusedVariables false
set_option linter.unusedSimpArgs false
open Go.RowKit
abbrev strV (s : ByteArray) : Value := .string s
theorem run_append_none {P : Program} {w : World} {B : Nat} {e : TypeId} {v : Value} {n : Nat} {xs : List Value} {t ty : TypeId} {i : TypeInfo} (ht : P.underlying t = some (.slice e)) (hi : P.info? e = some i) (hsize : i.size = 1) (h : SliceIs w B e v n xs) (a : Option Addr) (c : Nat) :
    (Builtin.append_ #[t, t] ty #[v, .slice a 0 c]).run P w = .ok v w := by
  have hf : (Builtin.firstCells 1 0 (.slice a 0 c)).run P w = .ok #[] w := by
    cases a with
    | none => rfl
    | some A =>
      have hL := run_loadCells_list (P := P) w A [] (by simp)
      rw [List.length_nil] at hL
      simp [Builtin.firstCells, hL]
  rcases h.2 with ⟨rfl, rfl⟩ | ⟨g, cap, cur, rfl, h2, h3, h4, h5, h6, h7⟩
  · simp [Builtin.append_, run_underlying ht, sizeOf, typeInfo, hi, hsize, Builtin.lenOf, hf]
  · simp [Builtin.append_, run_underlying ht, sizeOf, typeInfo, hi, hsize, Builtin.lenOf, hf, h5, storeCells]
theorem info_str : (Tryz.prog.info? 9).map (fun i => (i.zero, i.size, i.bytes)) = some (some (.string ByteArray.empty), 1, 16) := by kernel_rfl
/-- 'append(l, m...)', l of the call's own making. -/
theorem append_texts {w : World} {B n m c : Nat} {v : Value} {xs ys : List ByteArray} {a : Option Addr} (h : SliceIs w B 9 v n (xs.map strV)) (hB : B ≤ w.heap.size) (hm : ys.length = m)
    (ha : m = 0 ∨ ∃ b o, a = some ⟨b, o, none⟩ ∧ ∀ i, i < m → w.cell? ⟨b, o + i, none⟩ = some (.string (ys.getD i ByteArray.empty))) (hs : n + m ≤ 1000000000) :
    ∃ v' w', (Builtin.append_ #[22, 22] 22 #[v, .slice a m c]).run Tryz.prog w = .ok v' w' ∧ SliceIs w' B 9 v' (n + m) ((xs ++ ys).map strV) ∧ Below B w w' := by
  obtain ⟨i0, g1, g2, g3, g4⟩ := info_parts info_str
  rcases Nat.eq_zero_or_pos m with h0 | h0
  · subst h0
    have hy : ys = [] := List.eq_nil_of_length_eq_zero hm
    subst hy
    exact ⟨v, w, run_append_none (P := Tryz.prog) Tryz.underlying22 g1 g3 h a c, by simpa using h, Below.refl _ _⟩
  · obtain ⟨b, o, rfl, hc⟩ := ha.resolve_left (by omega)
    rw [List.map_append]
    refine run_append_local (P := Tryz.prog) Tryz.underlying22 g1 g2 g3 g4 rfl h hB ⟨b, o, none⟩ m c (ys.map strV) h0 (by simp [hm]) (fun j u hu => ?_) (by simp; intro x _; rfl) (by unfold maxLen; omega) (by omega)
    rw [List.getElem?_map] at hu
    cases hb : ys[j]? with
    | none => rw [hb] at hu; cases hu
    | some s =>
      rw [hb] at hu
      obtain ⟨hj, hcj⟩ := List.getElem?_eq_some_iff.1 hb
      rw [Addr.add_lit, hc j (by omega)]
      simp only [List.getD, hb, Option.getD_some]
      simpa using hu
theorem texts_of_slice {w : World} {B n : Nat} {v : Value} {xs : List ByteArray} (h : SliceIs w B 9 v n (xs.map strV)) : ∃ a c, v = .slice a n c ∧ ArgRow w a n c (fun i => .string (xs.getD i ByteArray.empty)) := by
  obtain ⟨a, c, rfl, h1, h2⟩ := h.arg
  refine ⟨a, c, rfl, h1, h2.imp id ?_⟩
  rintro ⟨b, o, e, hc⟩
  refine ⟨b, o, e, fun i hi => ?_⟩
  have hl : xs.length = n := by simpa using h.1
  rw [hc i hi]
  simp [List.getD, show i < xs.length by omega]
end Go.Proofs.YtlecnlnpgghmbaaGreatDoor

/- The law PackCuts: the walk. -/
-- SOFT
namespace Go.Proofs.YtlecnlnpgghmbaaGreatDoor
set_option linter.unusedVariables false
set_option linter.unusedSimpArgs false
open Go.RowKit
theorem total_cut (L : List ByteArray) (i j : Nat) (h : i ≤ j) : totalT (L.take i ++ L.drop j) ≤ totalT L := by
  unfold totalT
  have h1 : ((L.take i).map ByteArray.size).sum + ((L.drop i).map ByteArray.size).sum = (L.map ByteArray.size).sum := by
    rw [← List.sum_append, ← List.map_append, List.take_append_drop]
  have h2 : ((L.drop j).map ByteArray.size).sum ≤ ((L.drop i).map ByteArray.size).sum := by
    have : L.drop j = (L.drop i).drop (j - i) := by rw [List.drop_drop]; congr 1; omega
    rw [this]
    have := congrArg (fun l => (l.map ByteArray.size).sum) (List.take_append_drop (j - i) (L.drop i))
    simp only [List.map_append, List.sum_append] at this
    omega
  simp only [List.map_append, List.sum_append, List.length_append, List.length_take, List.length_drop]
  omega
theorem fits_cut {L : List ByteArray} (h : fitsT L = true) (i j : Nat) : fitsT (L.take i ++ L.drop j) = true := by
  have h' := of_decide_eq_true h
  refine decide_eq_true fun s hs => ?_
  rcases List.mem_append.1 hs with hs | hs
  · exact h' s (List.mem_of_mem_take hs)
  · exact h' s (List.mem_of_mem_drop hs)
theorem delP_ok {L : List ByteArray} {i m : Nat} (h : i + m ≤ L.length) : delP L i m = (0, L.take i ++ L.drop (i + m)) := by
  unfold delP
  rw [if_neg (by omega), Int.toNat_natCast, Int.toNat_natCast]
theorem delP_far {L : List ByteArray} {n : Int} (h : (L.length : Int) < n) : delP L n 0 = (1, L) := by
  unfold delP; rw [if_pos (by omega)]
theorem delP_many {L : List ByteArray} {n : Int} (h : (L.length : Int) < n) : delP L 0 n = (1, L) := by
  unfold delP; rw [if_pos (by omega)]
def afterT (a : Option Addr) (ca q : Nat) : Option Addr := match a with
  | some ⟨b, o, none⟩ => if ca = q then some ⟨b, o, none⟩ else some ⟨b, o + q, none⟩
  | x => x
end Go.Proofs.YtlecnlnpgghmbaaGreatDoor

/- quick: pour. -/
namespace Go.Proofs.YtlecnlnpgghmbaaGreatDoor
set_option linter.unusedVariables false
set_option linter.unusedSimpArgs false
open Go.RowKit Go.Shelf
attribute [local go_sem] Oper.semAt_some
theorem PackF.head_only {w : World} {p : Nat} {F : Nat → Prop} {L : List ByteArray} (h : PackF w p F L) {k : Nat} (hk : F k) {cs : Array Value} {fz : Nat × Nat} (e : w.heap[k]? = some (.cells cs 151 fz)) : k = p := by
  obtain ⟨g, cap, cur, h, hF⟩ := h
  rcases (hF k).1 hk with rfl | rfl
  · rfl
  · obtain ⟨fz', _, hh⟩ := h.row
    rw [hh] at e
    injection e with e
    injection e with _ e _
    exact absurd e (by decide)
theorem PackF.own {W W' : World} {row : Option Nat} {p : Nat} {F : Nat → Prop} {L : List ByteArray} (h : PackF W p F L) (hg : W.grownBy W' row) (hr : ∀ r, row = some r → ∃ o : Obj, W.heap[r]? = some o ∧ o.isCells = false) : PackF W' p F L := by
  obtain ⟨g, cap, cur, h, hF⟩ := h
  obtain ⟨fz, h1, h2⟩ := h.row
  exact ⟨g, cap, cur, { h with head := grown_keepP hg hr h.head, row := ⟨fz, h1, grown_keepP hg hr h2⟩ }, hF⟩
theorem okl_prefix {X Y : List ByteArray} (h : OKL (X ++ Y)) : OKL X := by
  refine ⟨?_, ?_, fun s hs => h.each s (by simp [hs])⟩
  · have := h.size
    unfold sizeP at *
    rw [bodyL_append, List.length_append] at this
    omega
  · have := h.many
    rw [List.length_append] at this
    omega
theorem insP_end {X Y : List ByteArray} {s : ByteArray} (h : OKL (X ++ [s] ++ Y)) : insP X (X.length : Int) s = (0, X ++ [s]) := by
  have h1 := okl_prefix h
  have h2 := h1.each s (by simp)
  have h3 := h1.size
  have h4 := h1.many
  rw [List.length_append, List.length_singleton] at h4
  unfold sizeP at h3
  rw [bodyL_append, bodyL_cons, bodyL_nil, List.append_nil, List.length_append] at h3
  unfold insP sizeP
  rw [if_neg (by omega), if_neg (by omega), if_neg (by omega)]
  simp
/-- A round of pour, on the other pack's texts. -/
def pourT (at_ : Nat) (T : List ByteArray) (x : Nat × ByteArray) : List ByteArray := if at_ ≤ x.1 then (insP T (T.length : Int) x.2).2 else T
theorem pour_fold {L1 L2 : List ByteArray} {at_ : Nat} (ok : OKL (L2 ++ L1.drop at_)) : ∀ k, k ≤ L1.length → ((toldP L1).take k).foldl (pourT at_) L2 = L2 ++ (L1.take k).drop at_
  | 0, _ => by simp
  | k + 1, hk => by
    have ih := pour_fold ok k (by omega)
    rw [toldP_take (by omega), List.foldl_append, ih]
    simp only [List.foldl_cons, List.foldl_nil, pourT]
    by_cases h : at_ ≤ k
    · have e1 : (L1.take (k + 1)).drop at_ = (L1.take k).drop at_ ++ [L1[k]] := by
        rw [List.take_succ_eq_append_getElem (by omega), List.drop_append_of_le_length (by rw [List.length_take]; omega)]
      have e2 : L1.drop at_ = (L1.take k).drop at_ ++ [L1[k]] ++ L1.drop (k + 1) := by
        conv => lhs; rw [← List.take_append_drop (k + 1) L1]
        rw [List.drop_append_of_le_length (by rw [List.length_take]; omega), e1]
      rw [if_pos h, insP_end (Y := L1.drop (k + 1)) (by rw [e2] at ok; simpa [List.append_assoc] using ok), e1, List.append_assoc]
    · rw [if_neg h, List.drop_eq_nil_of_le (by rw [List.length_take]; omega), List.drop_eq_nil_of_le (by rw [List.length_take]; omega)]
/-- The range over All, where the loop knows of each element that it is one of those that are told. -/
theorem packStopsM {w0 w : World} {N p bp g cap : Nat} {cur : Array Value} {L : List ByteArray} (hl : Laid w0) (hw0 : w0.heap.size = N) (hb0 : Below N w0 w) (hN : N ≤ w.heap.size) (hr : PackRow w p g cap cur L) (hbp : w.cell? ⟨bp, 0, none⟩ = some (.pointer (some ⟨p, 0, none⟩))) (m : Nat) :
    SeqStopsK (α := { x // x ∈ toldP L }) Fence.wide m Tryz.prog 110 #[.pointer (some ⟨bp, 0, none⟩)] (fun x => encP x.1) (KeepP N w.heap.size g) (fun xs => xs.map (·.1) = toldP L) (fun pre => pre.map (·.1) <+: toldP L) (toldP L).length w := by
  intro l J Jx W hW hJ _ hY h0
  refine callsIn_wide.2 ((packIter1 hl hw0 (hb0.trans (hW.mono hN)) (hr.chg (Chg.of_below (fun _ => False) hW) id id) ((hW.cell (p := ⟨bp, 0, none⟩) (World.block_lt_of_cell? w _ hbp)).trans hbp) hW.size hN (fun xs W => ∃ ys, ys.map (·.1) = xs ∧ J ys W) (fun xs W => ∃ ys, ys.map (·.1) = xs ∧ Jx ys W) (fun s W W' row => by
    rintro ⟨ys, e, hj⟩ hg hr
    exact ⟨ys, e, hJ ys W W' row hj hg hr⟩) (fun pre x W1 => by
    rintro ⟨ys, rfl, hj⟩ hp
    have hx : x ∈ toldP L := hp.subset (by simp)
    have hl := pre_ltP hp
    rw [List.length_map] at hl
    refine (hY ys ⟨x, hx⟩ W1 hj hl).mono ?_
    rintro e W' (⟨rfl, hj', hk⟩ | ⟨rfl, hj'⟩)
    · exact .inl ⟨rfl, ⟨_, by simp, hj'⟩, hk⟩
    · exact .inr ⟨rfl, _, by simp, hj'⟩) ⟨[], rfl, h0⟩).mono ?_)
  rintro e W' ⟨hv, ⟨xs, rfl, ys, hys, hj⟩ | ⟨pre, hp, ys, rfl, hj⟩⟩
  · exact ⟨hv, .inl ⟨ys, hys, hj⟩⟩
  · exact ⟨hv, .inr ⟨ys, hp, hj⟩⟩
/-- Between two rounds of pour. -/
structure PourI (w0 w : World) (n p1 p2 at_ : Nat) (F1 F2 : Nat → Prop) (L1 L2 : List ByteArray) (pre : List { x // x ∈ toldP L1 }) (W : World) : Prop where
  below : Below w0.heap.size w0 W
  size : n + 3 ≤ W.heap.size
  b0 : W.heap[n]? = some (.cells #[.int .i64 at_] 3 (0, 0))
  b1 : W.heap[n + 1]? = some (.cells #[.pointer (some ⟨p2, 0, none⟩)] 79 (0, 0))
  from_ : PackF W p1 F1 L1
  to_ : ∃ F, PackF W p2 F ((pre.map (·.1)).foldl (pourT at_) L2) ∧ Fresh w F2 F ∧ ∀ k, F k → n ≤ k → n + 3 ≤ k
  chg : Chg F2 w W
theorem PourI.own {w0 w : World} {n p1 p2 at_ : Nat} {F1 F2 : Nat → Prop} {L1 L2 : List ByteArray} {B : Nat} (h0 : w0.heap.size ≤ w.heap.size) (hB : w.heap.size ≤ B) : OwnFrom B (PourI w0 w n p1 p2 at_ F1 F2 L1 L2) := by
  rintro pre W W' row h hg hr
  have hr2 := fun r e => (hr r e).2
  obtain ⟨F, g1, g2, g3⟩ := h.to_
  refine ⟨grown_belowP h.below hg (fun r e => (hr r e).1) (by omega) (by have := h.chg.size; omega), Nat.le_trans h.size hg.size, grown_keepP hg hr2 h.b0, grown_keepP hg hr2 h.b1, h.from_.own hg hr2, ⟨F, g1.own hg hr2, g2, g3⟩, ?_⟩
  refine h.chg.trans (S' := fun k => row = some k) ⟨hg.os, hg.tape, hg.output, hg.size, fun k hk hn => hg.block k hk fun e => hn e.symm⟩ fun k hk hlt => ?_
  have := (hr k hk).1
  omega
set_option maxHeartbeats 6400000 in
set_option maxRecDepth 100000 in
theorem pour_any {w0 w : World} (hl : Laid w0) (hb0 : Below w0.heap.size w0 w) (hN : w0.heap.size ≤ w.heap.size) {p1 p2 : Nat} {F1 F2 : Nat → Prop} {L1 L2 : List ByteArray} (h1 : PackF w p1 F1 L1) (h2 : PackF w p2 F2 L2)
    (hd : ∀ k, F1 k → ¬ F2 k) (k1 : ∀ k, F1 k → w0.heap.size ≤ k) (k2 : ∀ k, F2 k → w0.heap.size ≤ k) (at_ : Nat) (hat : at_ ≤ L1.length) (ok : OKL (L2 ++ L1.drop at_)) :
    Calls Tryz.prog 97 #[.pointer (some ⟨p1, 0, none⟩), .int .i64 at_, .pointer (some ⟨p2, 0, none⟩)] w fun e w' => (∃ v, e = .returned v) ∧
      (∃ F1' F2', PackF w' p1 F1' (L1.take at_) ∧ PackF w' p2 F2' (L2 ++ L1.drop at_) ∧ Fresh w F1 F1' ∧ Fresh w F2 F2' ∧ ∀ k, F1' k → ¬ F2' k) ∧ Chg (fun k => F1 k ∨ F2 k) w w' := by
  have HA := Lib.hid (fun w => packAll w p1)
  have hmany := h1.ok.many
  obtain ⟨w4, hw4⟩ : ∃ w4, w4 = (w.alloc (.cells #[.int .i64 at_] 3)).alloc (.cells #[.pointer (some ⟨p2, 0, none⟩)] 79) := ⟨_, rfl⟩
  have hs4 : w4.heap.size = w.heap.size + 2 := by rw [hw4]; simp
  have hb4 : Below w.heap.size w w4 := by rw [hw4]; exact ((Below.refl w.heap.size w).alloc (Nat.le_refl _) _).alloc (by simp) _
  obtain ⟨w5, hw5⟩ : ∃ w5, w5 = w4.alloc (.cells #[.pointer (some ⟨p1, 0, none⟩)] 79) := ⟨_, rfl⟩
  have hs5 : w5.heap.size = w.heap.size + 3 := by rw [hw5]; simp [hs4]
  have hb5 : Below w.heap.size w w5 := by rw [hw5]; exact hb4.alloc (by omega) _
  have hbp : w5.cell? ⟨w4.heap.size, 0, none⟩ = some (.pointer (some ⟨p1, 0, none⟩)) := by rw [hw5]; exact cell_in (heap_new _ _) rfl
  have hb05 : Below w0.heap.size w0 w5 := hb0.trans (hb5.mono hN)
  have hI0 : PourI w0 w w.heap.size p1 p2 at_ F1 F2 L1 L2 [] w5 := by
    have e1 := heap_new w (Obj.cells #[Value.int IntKind.i64 at_] 3)
    have e2 := heap_new (w.alloc (Obj.cells #[Value.int IntKind.i64 at_] 3)) (Obj.cells #[.pointer (some ⟨p2, 0, none⟩)] 79)
    simp only [World.size_alloc] at e2
    refine ⟨hb05, by omega, ?_, ?_, h1.below hb5, ⟨F2, by simpa using h2.below hb5, fun k hk => .inl hk, fun k hk hn => by have := h2.lt hk; omega⟩, Chg.of_below _ hb5⟩ <;> rw [hw5, hw4]
    · exact heap_old (heap_old e1 _) _
    · exact heap_old e2 _
  have h15 := h1.below hb5
  obtain ⟨g, cap, cur, hrw, hF1⟩ := h15
  have HSeq := Lib.hid (packStopsM hl rfl hb05 (by omega) hrw hbp 2)
  have hF1g : F1 g := (hF1 g).2 (.inr rfl)
  have HI0 := Lib.hid hI0
  have HW4 := Lib.hid hw4
  have HW5 := Lib.hid (And.intro hw5 hs5)
  have H := Lib.hid (And.intro hl (And.intro hN (And.intro hd (And.intro k1 (And.intro k2 (And.intro hat (And.intro ok (And.intro hF1g (And.intro (show ∀ k, F2 k → k < w.heap.size from fun k hk => h2.lt hk) (And.intro (show p2 < w.heap.size from h2.lt h2.head) (show ∀ k, F1 k → k < w.heap.size from fun k hk => h1.lt hk)))))))))))
  clear hw4 hw5 hs4 hb4 hs5 hb5 hbp hI0 hrw hl hb0 hb05 h1 h2 hd k1 k2 ok hF1 hF1g hN
  obtain ⟨tm, htm⟩ : ∃ tm : Array Value, tm = #[.pointer (some ⟨p1, 0, none⟩), .int .i64 at_, .pointer (some ⟨p2, 0, none⟩), undef, .pointer (some ⟨w.heap.size, 0, none⟩), .pointer (some ⟨w.heap.size + 1, 0, none⟩), undef, undef, .pointer (some ⟨p1, 0, none⟩), .func (.func 110) #[] #[.pointer (some ⟨w4.heap.size, 0, none⟩)], undef, undef, undef, undef, undef, undef, undef, undef, undef, undef, undef, undef, undef, undef, undef, undef, undef] := ⟨_, rfl⟩
  have HTm := Lib.hid htm
  clear htm
  refine callsIn_wide.1 (callsIn_of_wp_marks (n := 3) Tryz.func97 rfl trivial ?_ rfl)
  refine wpIn_wide.2 ?_
  simp only [Tryz.ntmps97, List.size_toArray, List.length_cons, List.length_nil, Nat.reduceAdd, Nat.reduceSub, Array.replicate_succ, Array.replicate_zero, List.push_toArray, List.append_toArray, List.nil_append, List.cons_append]
  go_wp2_with fail
  rw [← HW4.out]
  refine (HA.out w4).mono ?_
  rintro en w' ⟨rfl, hw'⟩
  obtain rfl : w' = w5 := hw'.trans HW5.out.1.symm
  clear hw'
  go_wp2_with fail
  refine (wpIn_wide (n := 3)).1 ?_
  refine wpIn_rangeFunc_ownH (F := Fence.wide) rfl (by omega) (gf := 110) (lb := #[.pointer (some ⟨w4.heap.size, 0, none⟩)]) rfl trivial (fun args w => rfl) HSeq.out KeepP.trans (fun W l o o' hle hl ho _ => KeepP.putObj W l o o' (by have := HW5.out.2; have := H.out.2.1; omega) hl ho) (Below.refl _ _) (fun _ => rfl)
    (PourI w0 w w.heap.size p1 p2 at_ F1 F2 L1 L2) (fun _ _ _ => False) (PourI.own H.out.2.1 (by have := HW5.out.2; omega)) (fun c => fun _ _ _ _ h _ _ => h) HI0.out (fun x a' _ => a' = { tmps := (((tm.setIfInBounds 10 (.int .i64 x.1.1)).setIfInBounds 11 (.string x.1.2)).setIfInBounds 6 (.int .i64 x.1.1)).setIfInBounds 7 (.string x.1.2), defers := [] }) (fun x a' => fun _ _ _ _ h _ _ => h) ?assign ?body ?done ?stop
  case assign =>
    intro l pre x W K hI hK
    have HI := Lib.hid hI
    clear hI
    unfold encP
    gi_wp2
    refine hK _ _ (KeepsFrom.refl _ _) (KeepP.of_below (Below.refl _ _) (by have := HI.out.chg.size; have := H.out.2.1; omega)) HI.out ?_
    rw [HTm.out]; rfl
  case body =>
    rintro l pre ⟨⟨xi, xs⟩, hx⟩ a' W _ _ hI rfl hlen
    have HI := Lib.hid hI
    obtain ⟨F, g1, g2, g3⟩ := hI.to_
    have x0 := cell_in hI.b0 (i := 0) rfl
    have hxs : xs.size ≤ 65536 := by
      obtain ⟨j, hj, he⟩ := List.getElem_of_mem hx
      have hj' : j < L1.length := by simpa using hj
      have : xs = L1[j] := by
        have e := congrArg Prod.snd he
        simp [toldP, List.getD, hj'] at e
        exact e.symm
      rw [this]
      exact hI.from_.ok.each _ (List.getElem_mem hj')
    rw [HTm.out]
    simp only [List.setIfInBounds_toArray, List.set_cons_succ, List.set_cons_zero]
    by_cases hm : at_ ≤ xi
    · have hmd : decide (at_ ≤ xi) = true := decide_eq_true hm
      obtain ⟨T, hT⟩ : ∃ T, (pre.map (·.1)).foldl (pourT at_) L2 = T := ⟨_, rfl⟩
      rw [hT] at g1
      have htm := g1.ok.many
      obtain ⟨X1, f, hX1, hf, hF⟩ := classOf (fun y => y.cell? ⟨w.heap.size + 1, 0, none⟩ = some (.pointer (some ⟨p2, 0, none⟩))) (w := W.drew) (cell_in hI.b1 (i := 0) rfl)
      have H0 := Lib.hid (hF W.drew (cell_in hI.b1 (i := 0) rfl))
      have HL := Lib.hid (packLen (w := W.drew) (g1.below (belowN (Below.refl _ _) 1)))
      have hb0W : Below w0.heap.size w0 W.drew := belowN hI.below 1
      have HIn := Lib.hid (packInsert (w := W.drew) (g1.below (belowN (Below.refl _ _) 1)) (H.out.1.below hb0W) (T.length : Int) (by omega) xs (by omega))
      have hpt : pourT at_ T (xi, xs) = (insP T (T.length : Int) xs).2 := by unfold pourT; rw [if_pos hm]
      have HFin := Lib.hid (show ∀ W', (∃ F', PackF W' p2 F' (insP T (T.length : Int) xs).2 ∧ Fresh W.drew F F') → Chg F W.drew W' → ownPostG w'.heap.size (KeepP w0.heap.size w'.heap.size g) (PourI w0 w w.heap.size p1 p2 at_ F1 F2 L1 L2) (fun _ _ _ => False) (pre ++ [⟨(xi, xs), hx⟩]) W .normal { tmps := #[], defers := [] } W' from fun W' hP hc0 => by
        have hI := HI.out
        have h' := H.out
        obtain ⟨F', q1, q2⟩ := hP
        have hc : Chg F W W' := (Chg.drew F W).trans hc0 fun _ h _ => h
        have hFn : ∀ k, F k → w0.heap.size ≤ k := fun k hk => by
          rcases g2 k hk with h1 | h1
          · exact h'.2.2.2.2.1 k h1
          · have := h'.2.1; omega
        have hsz : w.heap.size ≤ W.heap.size := hI.chg.size
        have hF1 : ∀ k, F1 k → ¬ F k := fun k h1 h2 => by
          rcases g2 k h2 with h3 | h3
          · exact h'.2.2.1 k h1 h3
          · have := h'.2.2.2.2.2.2.2.2.2.2 k h1; omega
        refine ⟨keepsFrom_ofP _ hc fun k hk o ho => ?_, ⟨belowChg (Below.refl _ _) hc (by have := h'.2.1; omega) fun k hk _ => hFn k hk, hc.size, fun cs fz e => hc.keep e (hF1 _ h'.2.2.2.2.2.2.2.1), fun k cs fz hk e => hc.keep e fun hFk => ?_⟩,
          belowChg hI.below hc (by have := h'.2.1; omega) fun k hk _ => hFn k hk, Nat.le_trans hI.size hc.size, hc.keep hI.b0 fun hFk => by have := g3 _ hFk; omega, hc.keep hI.b1 fun hFk => by have := g3 _ hFk; omega, hI.from_.chg hc hF1, ⟨F', ?_, fun k hk => ?_, fun k hk hn => ?_⟩, ?_⟩
        · obtain ⟨cs, E, fz, e, _⟩ := g1.kind hk
          rw [e] at ho; cases ho; rfl
        · have := g1.head_only hFk e
          have := h'.2.2.2.2.2.2.2.2.2.1
          have := HW5.out.2
          omega
        · rw [List.map_append, List.foldl_append, hT]
          simp only [List.map_cons, List.map_nil, List.foldl_cons, List.foldl_nil, hpt]
          exact q1
        · rcases q2 k hk with h1 | h1
          · exact g2 k h1
          · exact .inr (Nat.le_trans hsz h1)
        · rcases q2 k hk with h1 | h1
          · exact g3 k h1 hn
          · exact Nat.le_trans hI.size h1
        · exact hI.chg.trans hc fun k hk hlt => by
            rcases g2 k hk with h1 | h1
            · exact h1
            · omega)
      clear hI g1 g2 g3 hF hT hpt hb0W hm
      generalize T.length = nT at *
      gi_wp2
      refine wpIn_region_text ⟨[2, 4], [], 4⟩ (fun w' => ∃ x : X1, w' = f x) (by kernel_rfl) (by kernel_rfl) (by kernel_rfl) H0.out ?_
      refine wpC_seg false (H0.out) 2 0 _ _ (by rfl) (by rfl) ?_
      simp only [List.take_succ_cons, List.take_zero, List.drop_succ_cons, List.drop_zero, Bool.false_eq_true, if_false, Nat.zero_add, Nat.reduceAdd]
      repeat (go_big_quiet_step (fail))
      refine wpQuiet_nil ?_
      refine wpC_loud (by rfl) (by rfl) fun K hK => ?_
      go_wp2_with fail
      refine HL.out.mono ?_
      rintro e W2 ⟨rfl, rfl⟩
      refine hK _ _ (fun _ => H0.out) ?_
      clear hK
      refine wpC_seg false (H0.out) 1 3 _ _ (by rfl) (by rfl) ?_
      simp only [List.take_succ_cons, List.take_zero, List.drop_succ_cons, List.drop_zero, Bool.false_eq_true, if_false, Nat.zero_add, Nat.reduceAdd]
      repeat (go_big_quiet_step (fail))
      refine wpQuiet_nil ?_
      refine wpC_loud (by rfl) (by rfl) fun K hK => ?_
      go_wp2_with fail
      refine HIn.out.mono ?_
      rintro e W2 ⟨rfl, hP, hc⟩
      have HE := Lib.hid (HFin.out W2 hP hc)
      refine hK _ _ (fun h => absurd h (by decide)) ?_
      clear hK hP hc
      refine wpC_nil ?_
      gi_wp2
      exact HE.out
    · have hmd : decide (at_ ≤ xi) = false := decide_eq_false hm
      have hpt : ∀ T, pourT at_ T (xi, xs) = T := fun T => by unfold pourT; rw [if_neg hm]
      have HFin := Lib.hid (show ownPostG w'.heap.size (KeepP w0.heap.size w'.heap.size g) (PourI w0 w w.heap.size p1 p2 at_ F1 F2 L1 L2) (fun _ _ _ => False) (pre ++ [⟨(xi, xs), hx⟩]) W .normal { tmps := #[], defers := [] } W from
        ⟨KeepsFrom.refl _ _, KeepP.of_below (Below.refl _ _) (by have := hI.chg.size; have := H.out.2.1; omega), { hI with to_ := ⟨F, by
          rw [List.map_append, List.foldl_append]
          simp only [List.map_cons, List.map_nil, List.foldl_cons, List.foldl_nil, hpt]
          exact g1, g2, g3⟩ }⟩)
      clear hI g1 g2 g3 hm hpt
      gi_wp2
      exact HFin.out
  case done =>
    rintro D xs W hD hxs hI hK
    have hfold := pour_fold H.out.2.2.2.2.2.2.1 L1.length (Nat.le_refl _)
    rw [List.take_length, show L1.length = (toldP L1).length by simp, List.take_length] at hfold
    obtain ⟨F, g1, g2, g3⟩ := hI.to_
    rw [hxs, hfold] at g1
    have x0 := cell_in hI.b0 (i := 0) rfl
    obtain ⟨X1, f, hX1, hf, hF⟩ := classOf (fun y => y.cell? ⟨w.heap.size, 0, none⟩ = some (.int .i64 at_)) (w := W.drew) x0
    have H0 := Lib.hid (hF W.drew x0)
    have hb0W : Below w0.heap.size w0 W.drew := belowN hI.below 1
    have hfr := hI.from_.below (belowN (Below.refl W.heap.size W) 1)
    have HL := Lib.hid (packLen (w := W.drew) hfr)
    have HDl := Lib.hid (packDelete (w := W.drew) hfr (H.out.1.below hb0W) (at_ : Int) ((L1.length : Int) - (at_ : Int)) (by omega) (by omega))
    rw [show (L1.length : Int) - (at_ : Int) = ((L1.length - at_ : Nat) : Int) by omega, delP_ok (by omega), show at_ + (L1.length - at_) = L1.length by omega, List.drop_length, List.append_nil] at HDl
    rw [show ((L1.length - at_ : Nat) : Int) = (L1.length : Int) - (at_ : Int) by omega] at HDl
    have HI := Lib.hid (And.intro hI (And.intro g1 (And.intro g2 (And.intro g3 (And.intro hK hD)))))
    clear hI hK g1 g2 g3 hfr hb0W hF hxs hfold
    generalize L1.length = nL at *
    go_wp2_with fail
    refine wp_region_text ⟨[3, 6], [], 6⟩ (fun w' => ∃ x : X1, w' = f x) (by kernel_rfl) (by kernel_rfl) H0.out ?_
    refine wpC_seg false (H0.out) 3 0 _ _ (by rfl) (by rfl) ?_
    simp only [List.take_succ_cons, List.take_zero, List.drop_succ_cons, List.drop_zero, Bool.false_eq_true, if_false, Nat.zero_add, Nat.reduceAdd]
    repeat (go_big_quiet_step (fail))
    refine wpQuiet_nil ?_
    refine wpC_loud (by rfl) (by rfl) fun K hK => ?_
    go_wp2_with fail
    refine HL.out.mono ?_
    rintro e W2 ⟨rfl, rfl⟩
    refine hK _ _ (fun _ => H0.out) ?_
    clear hK
    refine wpC_seg false (H0.out) 2 4 _ _ (by rfl) (by rfl) ?_
    simp only [List.take_succ_cons, List.take_zero, List.drop_succ_cons, List.drop_zero, Bool.false_eq_true, if_false, Nat.zero_add, Nat.reduceAdd]
    repeat (go_big_quiet_step (fail))
    refine wpQuiet_nil ?_
    refine wpC_loud (by rfl) (by rfl) fun K hK => ?_
    go_wp2_with fail
    refine HDl.out.mono ?_
    rintro e W2 ⟨rfl, hP, hc⟩
    have HE := Lib.hid (And.intro hP hc)
    refine hK _ _ (fun h => absurd h (by decide)) ?_
    clear hK hP hc
    refine wpC_nil ?_
    have hFin : (∃ F1' F2', PackF (W2.putObj D (.deferred none)) p1 F1' (L1.take at_) ∧ PackF (W2.putObj D (.deferred none)) p2 F2' (L2 ++ L1.drop at_) ∧ Fresh w F1 F1' ∧ Fresh w F2 F2' ∧ ∀ k, F1' k → ¬ F2' k) ∧ Chg (fun k => F1 k ∨ F2 k) w (W2.putObj D (.deferred none)) ∧ W2.heap[D]? = some (.deferred (some [])) := by
      have h' := H.out
      obtain ⟨hI, g1, g2, g3, hK, hD⟩ := HI.out
      obtain ⟨⟨F1', q1, q2⟩, hc⟩ := HE.out
      have hsz : w.heap.size ≤ W.heap.size := hI.chg.size
      have hlt1 : ∀ k, F1 k → k < w.heap.size := h'.2.2.2.2.2.2.2.2.2.2
      have hK2 : W2.heap[D]? = some (.deferred (some [])) := hc.keep (show W.drew.heap[D]? = _ from hK) fun hF => by
        have := hlt1 D hF
        have := HW5.out.2
        omega
      have hg := grownBy_putObj' W2 D (.deferred none)
      have hr : ∀ r, some D = some r → ∃ o : Obj, W2.heap[r]? = some o ∧ o.isCells = false := fun r e => by cases e; exact ⟨_, hK2, rfl⟩
      have p2' : PackF W2 p2 F (L2 ++ L1.drop at_) := (g1.below (belowN (Below.refl _ _) 1)).chg hc fun k h1 h2 => by
        rcases g2 k h1 with h3 | h3
        · exact h'.2.2.1 k h2 h3
        · have := hlt1 k h2; omega
      refine ⟨⟨F1', F, q1.own hg hr, p2'.own hg hr, fun k hk => ?_, g2, fun k h1 h2 => ?_⟩, ?_, hK2⟩
      · exact (q2 k hk).imp id fun h => Nat.le_trans hsz h
      · rcases q2 k h1 with h3 | h3
        · rcases g2 k h2 with h4 | h4
          · exact h'.2.2.1 k h3 h4
          · have := hlt1 k h3; omega
        · have := g1.lt h2
          have : W.heap.size ≤ k := h3
          omega
      · refine ((hI.chg.mono fun k hk _ => .inr hk).trans ((Chg.drew F1 W).trans hc fun k hk _ => hk) fun k hk _ => .inl hk).trans (S' := fun k => k = D) ⟨hg.os, hg.tape, hg.output, hg.size, fun k hk hn => hg.block k hk fun e => hn (by cases e; rfl)⟩ fun k hk hlt => ?_
        subst hk
        have := HW5.out.2
        omega
    refine ⟨by simp, .inl ⟨_, _, rfl, run_takeDeferred hFin.2.2, ?_⟩⟩
    exact ⟨_, results_none rfl _ _ _, ⟨_, rfl⟩, hFin.1, hFin.2.1⟩
  case stop =>
    rintro D c pre W hD hpre hX hK
    exact hX.elim
end Go.Proofs.YtlecnlnpgghmbaaGreatDoor

/- quick: the row as an object; places; New, Len, place, Get. -/
namespace Go.Proofs.YtlecnlnpgghmbaaGreatDoor
set_option linter.unusedVariables false
set_option linter.unusedSimpArgs false
open Go.RowKit
/-- No pack is empty, none is too long. -/
def Good (Ns : List Nd) : Prop := ∀ nd ∈ Ns, nd.T ≠ [] ∧ nd.T.length ≤ 32
theorem sum_bound (L : List ByteArray) (h : ∀ s ∈ L, s.size ≤ 65536) : (L.map ByteArray.size).sum ≤ 65536 * L.length := by
  induction L with
  | nil => simp
  | cons s l ih =>
    have h1 := h s (by simp)
    have h2 := ih fun x hx => h x (by simp [hx])
    simp only [List.map_cons, List.sum_cons, List.length_cons]
    omega
theorem few_size {L : List ByteArray} (h : ∀ s ∈ L, s.size ≤ 65536) (hn : L.length ≤ 100) : sizeP L ≤ 100000000 := by
  have h1 := body_le L h
  have h2 := sum_bound L h
  unfold sizeP totalT at *
  omega
theorem okl_few {L : List ByteArray} (h : ∀ s ∈ L, s.size ≤ 65536) (hn : L.length ≤ 100) : OKL L :=
  ⟨by have := few_size h hn; omega, by omega, h⟩
section
variable {Ns A B A' B' : List Nd} {nd nd' : Nd} {m pl pl' : Nat}
theorem Good.nil_of {A : List Nd} (h : Good A) (h0 : (flatN A).length = 0) : A = [] := by
  cases A with
  | nil => rfl
  | cons u l =>
    exfalso
    rw [flat_cons, List.length_append] at h0
    exact (h u (by simp)).1 (List.eq_nil_of_length_eq_zero (by omega))
theorem At.aux (g : Good Ns) (h : At Ns m A nd B pl) (C : List Nd) (e : At Ns m (A ++ nd :: C) nd' B' pl') : False := by
  have h1 := h.sum
  have h2 := e.sum
  have h3 := h.le
  rw [flat_append, flat_cons, List.length_append, List.length_append] at h2
  have h4 : pl' = 0 := by omega
  have h5 : m = 0 := by
    rcases Nat.eq_zero_or_pos m with h | h
    · exact h
    · have := e.pos h; omega
  have : nd.T.length = 0 := by omega
  exact (g nd (by rw [h.eq]; simp)).1 (List.eq_nil_of_length_eq_zero this)
theorem At.unique (g : Good Ns) (h : At Ns m A nd B pl) (h' : At Ns m A' nd' B' pl') : A = A' ∧ nd = nd' ∧ B = B' ∧ pl = pl' := by
  have e := h.eq.symm.trans h'.eq
  rcases List.append_eq_append_iff.1 e with ⟨C, h1, h2⟩ | ⟨C, h1, h2⟩
  · cases C with
    | nil =>
      simp only [List.append_nil] at h1
      simp only [List.nil_append, List.cons.injEq] at h2
      subst h1
      have h3 := h.sum
      have h4 := h'.sum
      exact ⟨rfl, h2.1, h2.2, by omega⟩
    | cons u C =>
      simp only [List.cons_append, List.cons.injEq] at h2
      obtain ⟨rfl, h2⟩ := h2
      subst h1
      exact (h.aux g C h').elim
  · cases C with
    | nil =>
      simp only [List.append_nil] at h1
      simp only [List.nil_append, List.cons.injEq] at h2
      subst h1
      have h3 := h.sum
      have h4 := h'.sum
      exact ⟨rfl, h2.1.symm, h2.2.symm, by omega⟩
    | cons u C =>
      simp only [List.cons_append, List.cons.injEq] at h2
      obtain ⟨rfl, h2⟩ := h2
      subst h1
      exact (h'.aux g C h).elim
theorem At.flat (h : At Ns m A nd B pl) : flatN Ns = flatN A ++ nd.T ++ flatN B := by rw [h.eq, flat_append, flat_cons, List.append_assoc]
theorem At.take (h : At Ns m A nd B pl) : (flatN Ns).take m = flatN A ++ nd.T.take pl := by
  rw [h.flat, ← h.sum, List.append_assoc, List.take_length_add_append, List.take_append_of_le_length h.le]
theorem At.drop (h : At Ns m A nd B pl) : (flatN Ns).drop m = nd.T.drop pl ++ flatN B := by
  rw [h.flat, ← h.sum, List.append_assoc, List.drop_length_add_append, List.drop_append_of_le_length h.le]
/-- The text ahead of a place. -/
theorem At.get (h : At Ns (m + 1) A nd B pl) (x : ByteArray) : (flatN Ns).getD m x = nd.T.getD (pl - 1) x := by
  have hp := h.pos (by omega)
  have h1 := h.sum
  have h2 := h.le
  have e : m = (flatN A).length + (pl - 1) := by omega
  rw [h.flat, List.append_assoc, List.getD, e, List.getElem?_append_right (by omega), Nat.add_sub_cancel_left, List.getElem?_append_left (by omega), List.getD]
end
/-- A long row as an object: it tells L, and its blocks are F. -/
def QuickF (w : World) (q : Nat) (F : Nat → Prop) (L : List ByteArray) : Prop := ∃ Ns, QRow w q Ns (L.length : Nat) ∧ Good Ns ∧ flatN Ns = L ∧ ∀ k, F k ↔ foot q Ns k
/-- So many has each pack. -/
def lensN (Ns : List Nd) : List Nat := Ns.map fun nd => nd.T.length
/-- The same, with what each pack has. -/
def QuickL (w : World) (q : Nat) (F : Nat → Prop) (L : List ByteArray) (ls : List Nat) : Prop := ∃ Ns, QRow w q Ns (L.length : Nat) ∧ Good Ns ∧ flatN Ns = L ∧ lensN Ns = ls ∧ ∀ k, F k ↔ foot q Ns k
theorem QuickL.toF {w : World} {q : Nat} {F : Nat → Prop} {L : List ByteArray} {ls : List Nat} (h : QuickL w q F L ls) : QuickF w q F L := by
  obtain ⟨Ns, h1, h2, h3, h4, h5⟩ := h; exact ⟨Ns, h1, h2, h3, h5⟩
theorem QuickF.toL {w : World} {q : Nat} {F : Nat → Prop} {L : List ByteArray} (h : QuickF w q F L) : ∃ ls, QuickL w q F L ls := by
  obtain ⟨Ns, h1, h2, h3, h5⟩ := h; exact ⟨_, Ns, h1, h2, h3, rfl, h5⟩
theorem QuickL.chg {w w' : World} {q : Nat} {F : Nat → Prop} {L : List ByteArray} {ls : List Nat} (h : QuickL w q F L ls) {S : Nat → Prop} (hc : Chg S w w') (hn : ∀ k, F k → ¬ S k) : QuickL w' q F L ls := by
  obtain ⟨Ns, h1, h2, h3, h4, h5⟩ := h
  exact ⟨Ns, h1.chg hc fun k hk => hn k ((h5 k).2 hk), h2, h3, h4, h5⟩
theorem QuickL.below {w w' : World} {q : Nat} {F : Nat → Prop} {L : List ByteArray} {ls : List Nat} (h : QuickL w q F L ls) (hb : Below w.heap.size w w') : QuickL w' q F L ls := h.chg (Chg.of_below (fun _ => False) hb) fun _ _ => id
section
variable {w w' : World} {q : Nat} {F : Nat → Prop} {L : List ByteArray}
theorem QuickF.lt (h : QuickF w q F L) {k : Nat} (hk : F k) : k < w.heap.size := by
  obtain ⟨Ns, h1, _, _, h4⟩ := h
  exact h1.foot_lt ((h4 k).1 hk)
theorem QuickF.head (h : QuickF w q F L) : F q := by obtain ⟨Ns, h1, _, _, h4⟩ := h; exact (h4 q).2 (.inl rfl)
theorem QuickF.chg (h : QuickF w q F L) {S : Nat → Prop} (hc : Chg S w w') (hn : ∀ k, F k → ¬ S k) : QuickF w' q F L := by
  obtain ⟨Ns, h1, h2, h3, h4⟩ := h
  exact ⟨Ns, h1.chg hc fun k hk => hn k ((h4 k).2 hk), h2, h3, h4⟩
theorem QuickF.below (h : QuickF w q F L) (hb : Below w.heap.size w w') : QuickF w' q F L := h.chg (Chg.of_below (fun _ => False) hb) fun _ _ => id
theorem QuickF.small (h : QuickF w q F L) {s : ByteArray} (hs : s ∈ L) : s.size ≤ 65536 := by
  obtain ⟨Ns, h1, _, rfl, _⟩ := h
  obtain ⟨T, hT, hsT⟩ := List.mem_flatten.1 hs
  obtain ⟨nd, hm, rfl⟩ := List.mem_map.1 hT
  exact (h1.packs nd hm).ok.each s hsT
end
set_option maxHeartbeats 800000 in
set_option maxRecDepth 100000 in
theorem quickNew (w : World) : Calls Tryz.prog 91 #[] w fun e w' => e = .returned (pv w.heap.size) ∧ QuickL w' w.heap.size (fun k => k = w.heap.size) [] [] ∧ Below w.heap.size w w' := by
  obtain ⟨w1, hw1⟩ : ∃ w1, w1 = w.alloc (.cells #[.bool true, .pointer none, .pointer none, .int .i64 0] 158) := ⟨_, rfl⟩
  have HF := Lib.hid (show QuickL w1 w.heap.size (fun k => k = w.heap.size) [] [] ∧ Below w.heap.size w w1 from
    ⟨⟨[], ⟨by rw [hw1]; exact heap_new _ _, trivial, by simp, List.Pairwise.nil⟩, by intro nd h; simp at h, rfl, rfl, fun k => by simp [foot]⟩, by rw [hw1]; exact (Below.refl _ _).alloc (Nat.le_refl _) _⟩)
  have HW := Lib.hid hw1
  clear hw1
  go_enter Tryz.func91, Tryz.ntmps91
  go_wp2_with fail
  rw [← HW.out]
  go_ret
  exact ⟨rfl, HF.out⟩
set_option maxHeartbeats 800000 in
set_option maxRecDepth 100000 in
theorem qlen_any {w : World} {q : Nat} {Ns : List Nd} {n : Int} (h : QRow w q Ns n) : Calls Tryz.prog 170 #[pv q] w fun e w' => e = .returned (.int .i64 n) ∧ w = w' := by
  have x3 : w.cell? ⟨q, 3, none⟩ = some (.int .i64 n) := cell_in h.head (i := 3) rfl
  clear h
  go_enter Tryz.func170, Tryz.ntmps170
  go_wp2_with fail
  go_ret
  exact ⟨rfl, rfl⟩
theorem quickLen {w : World} {q : Nat} {F : Nat → Prop} {L : List ByteArray} (h : QuickF w q F L) : Calls Tryz.prog 170 #[pv q] w fun e w' => e = .returned (.int .i64 L.length) ∧ w = w' := by
  obtain ⟨Ns, h1, _⟩ := h; exact qlen_any h1
/-- The place that is meant. -/
def qplN (n : Nat) (a : Int) : Int := if a < 0 then a + n else a
def qplB (n : Nat) (a : Int) : Bool := decide (0 ≤ qplN n a) && decide (qplN n a < n)
set_option maxHeartbeats 1600000 in
set_option maxRecDepth 100000 in
theorem qplace_any {w : World} {q : Nat} {Ns : List Nd} {n : Nat} (h : QRow w q Ns n) (hn : n ≤ 1000000000) (a : Int) (ha : -9223372036854775808 ≤ a ∧ a ≤ 9223372036854775807) :
    Calls Tryz.prog 174 #[pv q, .int .i64 a] w fun e w' => e = .returned (.tuple #[.int .i64 (qplN n a), .bool (qplB n a)]) ∧ w = w' := by
  have HL := Lib.hid (qlen_any h)
  clear h
  by_cases h0 : a < 0
  · have d0 : decide (a < 0) = true := decide_eq_true h0
    have e0 : qplN n a = a + n := by unfold qplN; rw [if_pos h0]
    by_cases h1 : 0 ≤ a + n
    · have d1 : decide (0 ≤ a + (n : Int)) = true := decide_eq_true h1
      have d2 : decide (a + (n : Int) < n) = true := decide_eq_true (by omega)
      have e1 : qplB n a = true := by unfold qplB; rw [e0, d1, d2]; rfl
      rw [e0, e1]
      go_enter Tryz.func174, Tryz.ntmps174
      go_wp2_with fail
      refine HL.out.mono ?_
      rintro e w' ⟨rfl, rfl⟩
      go_wp2_with fail
      refine HL.out.mono ?_
      rintro e w' ⟨rfl, rfl⟩
      go_wp2_with fail
      go_ret2
      exact ⟨rfl, rfl⟩
    · have d1 : decide (0 ≤ a + (n : Int)) = false := decide_eq_false h1
      have e1 : qplB n a = false := by unfold qplB; rw [e0, d1]; rfl
      rw [e0, e1]
      go_enter Tryz.func174, Tryz.ntmps174
      go_wp2_with fail
      refine HL.out.mono ?_
      rintro e w' ⟨rfl, rfl⟩
      go_wp2_with fail
      go_ret2
      exact ⟨rfl, rfl⟩
  · have d0 : decide (a < 0) = false := decide_eq_false h0
    have e0 : qplN n a = a := by unfold qplN; rw [if_neg h0]
    have d1 : decide (0 ≤ a) = true := decide_eq_true (by omega)
    have e1 : qplB n a = decide (a < n) := by unfold qplB; rw [e0, d1]; rfl
    rw [e0, e1]
    go_enter Tryz.func174, Tryz.ntmps174
    go_wp2_with fail
    refine HL.out.mono ?_
    rintro e w' ⟨rfl, rfl⟩
    go_wp2_with fail
    go_ret2
    exact ⟨rfl, rfl⟩
def qgetV (L : List ByteArray) (a : Int) : Value := .tuple #[.string (if qplB L.length a then L.getD (qplN L.length a).toNat ByteArray.empty else ByteArray.empty), .bool (qplB L.length a)]
theorem getV_nat {T : List ByteArray} {k : Nat} (h : k < T.length) : getV T (k : Int) = .tuple #[.string (T.getD k ByteArray.empty), .bool true] := by
  have hp : placeN T.length k = k := by unfold placeN; rw [if_neg (by omega)]
  have hb : placeB T.length k = true := by unfold placeB; rw [hp]; simp; omega
  unfold getV
  rw [hb, hp]; simp
set_option maxHeartbeats 1600000 in
set_option maxRecDepth 100000 in
theorem quickGet {w : World} {q : Nat} {F : Nat → Prop} {L : List ByteArray} (h : QuickF w q F L) (hl : Laid w) (hn : L.length ≤ 1000000000) (a : Int) (ha : -9223372036854775808 ≤ a ∧ a ≤ 9223372036854775807) :
    Calls Tryz.prog 169 #[pv q, .int .i64 a] w fun e w' => e = .returned (qgetV L a) ∧ Below w.heap.size w w' := by
  obtain ⟨Ns, h1, h2, rfl, h4⟩ := h
  have HP := Lib.hid (qplace_any h1 hn a ha)
  cases hb : qplB (flatN Ns).length a with
  | false =>
    have hv : qgetV (flatN Ns) a = .tuple #[.string ByteArray.empty, .bool false] := by unfold qgetV; rw [hb]; simp
    rw [hv]
    rw [hb] at HP
    clear h1 h2 h4 hl hv hb
    generalize qplN (flatN Ns).length a = k at *
    go_enter Tryz.func169, Tryz.ntmps169
    go_wp2_with fail
    refine HP.out.mono ?_
    rintro e w' ⟨rfl, rfl⟩
    go_wp2_with fail
    go_ret2
    exact ⟨rfl, Below.refl _ _⟩
  | true =>
    have hk : 0 ≤ qplN (flatN Ns).length a ∧ qplN (flatN Ns).length a < (flatN Ns).length := by
      unfold qplB at hb
      simpa using hb
    obtain ⟨k, hkn⟩ : ∃ k : Nat, qplN (flatN Ns).length a = (k : Int) := ⟨(qplN (flatN Ns).length a).toNat, by omega⟩
    rw [hkn] at hk
    have hv : qgetV (flatN Ns) a = .tuple #[.string ((flatN Ns).getD k ByteArray.empty), .bool true] := by unfold qgetV; rw [hb, hkn]; simp
    rw [hv]
    rw [hb, hkn] at HP
    have HFd := Lib.hid (find_any h1 (k + 1) (by omega) (by omega))
    rw [show ((k + 1 : Nat) : Int) = (k : Int) + 1 by omega] at HFd
    have HH := Lib.hid (And.intro h1 (And.intro h2 hl))
    have HK := Lib.hid hk
    have hkb : k < 1000000000 := by omega
    clear h1 h2 h4 hl hv hb hkn hk
    obtain ⟨sv, hsv⟩ : ∃ sv, (flatN Ns).getD k ByteArray.empty = sv := ⟨_, rfl⟩
    rw [hsv]
    have HV := Lib.hid hsv
    clear hsv
    go_enter Tryz.func169, Tryz.ntmps169
    go_wp2_with fail
    refine HP.out.mono ?_
    rintro e w' ⟨rfl, rfl⟩
    go_wp2_with fail
    refine HFd.out.mono ?_
    rintro e w1 ⟨⟨hnil, _⟩ | ⟨A, nd, B, pl, hat, rfl⟩, b1⟩
    · exfalso
      have := HK.out.2
      rw [hnil] at this
      simp at this
      omega
    · have hq := HH.out.1
      rw [hat.eq] at hq
      have hq1 := hq.below b1
      have xn := cell_in hq1.node (i := 0) rfl
      have hpl := hat.pos (by omega)
      have hle := hat.le
      have HG := Lib.hid (packGet (hq1.packs nd (by simp)) (HH.out.2.2.below b1) ((pl - 1 : Nat) : Int) (by have := (hq1.packs nd (by simp)).ok.many; omega))
      rw [getV_nat (by omega), ← hat.get ByteArray.empty, HV.out, show ((pl - 1 : Nat) : Int) = (pl : Int) - 1 by omega] at HG
      have hpb : pl ≤ 1048576 := by have := (hq1.packs nd (by simp)).ok.many; omega
      have HB1 := Lib.hid b1
      clear hq hq1 hat b1 hle
      go_wp2_with fail
      refine HG.out.mono ?_
      rintro e w2 ⟨rfl, b2⟩
      have HB2 := Lib.hid (HB1.out.trans (b2.mono HB1.out.size))
      clear b2
      go_wp2_with fail
      go_ret2
      exact ⟨rfl, HB2.out⟩
end Go.Proofs.YtlecnlnpgghmbaaGreatDoor

/- quick: Insert. -/
namespace Go.Proofs.YtlecnlnpgghmbaaGreatDoor
set_option linter.unusedVariables false
set_option linter.unusedSimpArgs false
open Go.RowKit
section
variable {w w' : World} {q : Nat} {A B : List Nd} {u v nd : Nd} {n : Int}
/-- Two packs beside one another have changed. -/
theorem QRow.setPack2 (h : QRow w q (A ++ u :: v :: B) n) {Fu Fv : Nat → Prop} {Tu Tv : List ByteArray} (hc : Chg (fun k => u.F k ∨ v.F k) w w') (pu : PackF w' u.p Fu Tu) (pv : PackF w' v.p Fv Tv) (fu : Fresh w u.F Fu) (fv : Fresh w v.F Fv) (hd : ∀ k, Fu k → ¬ Fv k) :
    QRow w' q (A ++ ⟨u.x, u.p, Fu, Tu⟩ :: ⟨v.x, v.p, Fv, Tv⟩ :: B) n := by
  have ha := apart_mid.1 h.apart
  have hb := List.pairwise_cons.1 ha.2.1
  have hA : ∀ x ∈ A, x ∈ A ++ u :: v :: B := fun x hx => by simp [hx]
  have hB : ∀ x ∈ B, x ∈ A ++ u :: v :: B := fun x hx => by simp [hx]
  have iu : u ∈ A ++ u :: v :: B := by simp
  have iv : v ∈ A ++ u :: v :: B := by simp
  have hAu : ∀ x ∈ A, ∀ k, x.F k → ¬ Fu k := fun x hx k hk hF => by
    rcases fu k hF with h1 | h1
    · exact ha.2.2.1 x hx k hk h1
    · have := (h.packs x (hA x hx)).lt hk; omega
  have hAv : ∀ x ∈ A, ∀ k, x.F k → ¬ Fv k := fun x hx k hk hF => by
    rcases fv k hF with h1 | h1
    · exact ha.2.2.2.2 x hx v (by simp) k hk h1
    · have := (h.packs x (hA x hx)).lt hk; omega
  have hBu : ∀ x ∈ B, ∀ k, Fu k → ¬ x.F k := fun x hx k hF hk => by
    rcases fu k hF with h1 | h1
    · exact ha.2.2.2.1 x (by simp [hx]) k h1 hk
    · have := (h.packs x (hB x hx)).lt hk; omega
  have hBv : ∀ x ∈ B, ∀ k, Fv k → ¬ x.F k := fun x hx k hF hk => by
    rcases fv k hF with h1 | h1
    · exact hb.1 x hx k h1 hk
    · have := (h.packs x (hB x hx)).lt hk; omega
  refine h.repack (S := fun k => u.F k ∨ v.F k) (by simp [key]) hc (fun k hk => hk.elim (fun hk => ⟨u, iu, hk⟩) fun hk => ⟨v, iv, hk⟩) (fun x hx => ?_) ?_
  · simp only [List.mem_append, List.mem_cons] at hx
    rcases hx with hx | rfl | rfl | hx
    · exact (h.packs x (hA x hx)).chg hc fun k hk hS => hS.elim (ha.2.2.1 x hx k hk) (ha.2.2.2.2 x hx v (by simp) k hk)
    · exact pu
    · exact pv
    · exact (h.packs x (hB x hx)).chg hc fun k hk hS => hS.elim (fun hS => ha.2.2.2.1 x (by simp [hx]) k hS hk) fun hS => hb.1 x hx k hS hk
  · refine apart_mid.2 ⟨ha.1, List.pairwise_cons.2 ⟨hBv, hb.2⟩, hAu, fun x hx k h1 h2 => ?_, fun x hx y hy k h1 h2 => ?_⟩
    · rcases List.mem_cons.1 hx with rfl | hx
      · exact hd k h1 h2
      · exact hBu x hx k h1 h2
    · rcases List.mem_cons.1 hy with rfl | hy
      · exact hAv x hx k h1 h2
      · exact ha.2.2.2.2 x hx y (by simp [hy]) k h1 h2
end
def insQ (L : List ByteArray) (a : Int) (s : ByteArray) : Int × List ByteArray :=
  if a < 0 ∨ (L.length : Int) < a then (1, L) else if 65536 < s.size ∨ 1048576 ≤ L.length then (3, L) else (0, L.take a.toNat ++ [s] ++ L.drop a.toNat)
theorem insP_few {T : List ByteArray} (h : ∀ s ∈ T, s.size ≤ 65536) (hn : T.length ≤ 99) {i : Nat} (hi : i ≤ T.length) {s : ByteArray} (hs : s.size ≤ 65536) : insP T (i : Int) s = (0, T.take i ++ [s] ++ T.drop i) := by
  have h1 := few_size h (by omega)
  have h2 := entL_length s (by omega)
  unfold insP
  rw [if_neg (by omega), if_neg (by omega), if_neg (by omega), Int.toNat_natCast]
/-- The last part of Insert: one pack gets the text, the count is written. -/
theorem ins_last {w w2 : World} {q : Nat} {Ns A B : List Nd} {nd : Nd} {m pl n : Nat} {s : ByteArray} {F' : Nat → Prop} (h : QRow w q Ns (n : Nat)) (hat : At Ns m A nd B pl) (hg : Good A ∧ Good B) (hl : nd.T.length < 32) (hn : n = (flatN Ns).length) (hs : s.size ≤ 65536)
    (hp : PackF w2 nd.p F' (nd.T.take pl ++ [s] ++ nd.T.drop pl)) (hf : Fresh w nd.F F') (hc : Chg nd.F w w2) :
    let w3 := w2.setCell ⟨q, 3, none⟩ (.int .i64 ((n : Int) + 1))
    (∃ G, QuickL w3 q G ((flatN Ns).take m ++ [s] ++ (flatN Ns).drop m) (lensN A ++ (nd.T.length + 1) :: lensN B) ∧ Fresh w (foot q Ns) G) ∧ Chg (foot q Ns) w w3 ∧ w2.cell? ⟨q, 3, none⟩ = some (.int .i64 n) ∧ w2.frozen? ⟨q, 3, none⟩ = false := by
  intro w3
  have h0 := h
  rw [hat.eq] at h
  have hq2 := h.setPack hc hp hf
  have hq3 := hq2.setN ((n : Int) + 1)
  have hfl : flatN (A ++ ⟨nd.x, nd.p, F', nd.T.take pl ++ [s] ++ nd.T.drop pl⟩ :: B) = (flatN Ns).take m ++ [s] ++ (flatN Ns).drop m := by
    rw [hat.take, hat.drop, flat_append, flat_cons]
    simp [List.append_assoc]
  have hmle : m ≤ (flatN Ns).length := by
    have h1 := hat.sum
    have h2 := hat.le
    rw [hat.flat, List.length_append, List.length_append]; omega
  refine ⟨⟨foot q (A ++ ⟨nd.x, nd.p, F', nd.T.take pl ++ [s] ++ nd.T.drop pl⟩ :: B), ⟨_, ?_, ?_, hfl, ?_, fun k => Iff.rfl⟩, ?_⟩, ?_, cell_in hq2.head (i := 3) rfl, frozen_in hq2.head 3⟩
  · have : ((((flatN Ns).take m ++ [s] ++ (flatN Ns).drop m).length : Nat) : Int) = (n : Int) + 1 := by
      rw [List.length_append, List.length_append, List.length_take, List.length_drop, List.length_singleton]; omega
    rw [this]
    exact hq3
  · intro x hx
    simp only [List.mem_append, List.mem_cons] at hx
    rcases hx with hx | rfl | hx
    · exact hg.1 x hx
    · refine ⟨by simp, ?_⟩
      simp only [List.length_append, List.length_take, List.length_drop, List.length_singleton]; have := hat.le; omega
    · exact hg.2 x hx
  · have := hat.le
    unfold lensN
    simp only [List.map_append, List.map_cons, List.length_append, List.length_take, List.length_drop, List.length_singleton]
    congr 2
    omega
  · rintro k (rfl | ⟨x, hx, hk⟩)
    · exact .inl (.inl rfl)
    · simp only [List.mem_append, List.mem_cons] at hx
      rcases hx with hx | rfl | hx
      · exact .inl (.inr ⟨x, by rw [hat.eq]; simp [hx], hk⟩)
      · rcases hk with rfl | hk
        · exact .inl (.inr ⟨nd, by rw [hat.eq]; simp, .inl rfl⟩)
        · rcases hf k hk with hk | hk
          · exact .inl (.inr ⟨nd, by rw [hat.eq]; simp, .inr hk⟩)
          · exact .inr hk
      · exact .inl (.inr ⟨x, by rw [hat.eq]; simp [hx], hk⟩)
  · refine (hc.mono fun k hk _ => ?_).trans (Chg.setCell (fun k => k = q) w2 ⟨q, 3, none⟩ _ rfl) fun k hk _ => .inl hk
    exact .inr ⟨nd, by rw [hat.eq]; simp, .inr hk⟩
/-- What Insert makes of what the packs have. -/
def insL : List Nat → Nat → List Nat
  | [], _ => [1]
  | n :: l, m => if n < m then n :: insL l (m - n) else if n = 32 then (if m ≤ 16 then 17 :: 16 :: l else 16 :: 17 :: l) else (n + 1) :: l
theorem lens_flat (Ns : List Nd) : (lensN Ns).sum = (flatN Ns).length := by
  unfold lensN flatN
  rw [List.length_flatten, List.map_map]; rfl
theorem insL_at {pl n : Nat} {B : List Nat} (hpl : pl ≤ n) : ∀ {A : List Nat} {m : Nat}, A.sum + pl = m → (0 < m → 0 < pl) → (∀ x ∈ A, 0 < x) → insL (A ++ n :: B) m = A ++ if n = 32 then (if pl ≤ 16 then 17 :: 16 :: B else 16 :: 17 :: B) else (n + 1) :: B
  | [], m, h, _, _ => by
    simp only [List.sum_nil, Nat.zero_add] at h
    subst h
    simp only [List.nil_append, insL]
    rw [if_neg (by omega)]
  | x :: A, m, h, hp, hx => by
    have h0 := hx x (by simp)
    simp only [List.sum_cons] at h
    have hpp := hp (by omega)
    simp only [List.cons_append, insL]
    rw [if_pos (by omega), insL_at hpl (A := A) (m := m - x) (by omega) (fun _ => hpp) (fun y hy => hx y (by simp [hy]))]
theorem At.lens {Ns A B : List Nd} {nd : Nd} {m pl : Nat} (h : At Ns m A nd B pl) (hg : Good Ns) : insL (lensN Ns) m = lensN A ++ if nd.T.length = 32 then (if pl ≤ 16 then 17 :: 16 :: lensN B else 16 :: 17 :: lensN B) else (nd.T.length + 1) :: lensN B := by
  have e : lensN Ns = lensN A ++ nd.T.length :: lensN B := by rw [h.eq]; simp [lensN]
  rw [e]
  refine insL_at h.le (by rw [lens_flat]; exact h.sum) h.pos fun x hx => ?_
  obtain ⟨u, hu, rfl⟩ := List.mem_map.1 hx
  exact List.length_pos_iff.2 (hg u (by rw [h.eq]; simp [hu])).1
/-- A full pack in two. -/
theorem split_at {Ns A B : List Nd} {nd u v : Nd} {m pl : Nat} (hat : At Ns m A nd B pl) (hu : u.T = nd.T.take 16) (hv : v.T = nd.T.drop 16) (h32 : nd.T.length = 32) : (pl ≤ 16 ∧ At (A ++ u :: v :: B) m A u (v :: B) pl) ∨ (16 < pl ∧ At (A ++ u :: v :: B) m (A ++ [u]) v B (pl - 16)) := by
  have h1 := hat.sum
  have h2 := hat.le
  have hul : u.T.length = 16 := by rw [hu, List.length_take]; omega
  have hvl : v.T.length = 16 := by rw [hv, List.length_drop]; omega
  by_cases h : pl ≤ 16
  · exact .inl ⟨h, rfl, h1, by omega, hat.pos⟩
  · refine .inr ⟨by omega, by simp, ?_, by omega, fun _ => by omega⟩
    rw [flat_append, flat_cons, flat_nil, List.append_nil, List.length_append]
    omega
theorem split_flat {Ns A B : List Nd} {nd u v : Nd} {m pl : Nat} (hat : At Ns m A nd B pl) (hu : u.T = nd.T.take 16) (hv : v.T = nd.T.drop 16) : flatN (A ++ u :: v :: B) = flatN Ns := by
  rw [hat.flat, flat_append, flat_cons, flat_cons, hu, hv, ← List.append_assoc (nd.T.take 16), List.take_append_drop, List.append_assoc]
end Go.Proofs.YtlecnlnpgghmbaaGreatDoor

/- quick: Insert, walked. -/
namespace Go.Proofs.YtlecnlnpgghmbaaGreatDoor
set_option linter.unusedVariables false
set_option linter.unusedSimpArgs false
open Go.RowKit
theorem foot_ge {w0 : World} {q : Nat} {Ns : List Nd} {F : Nat → Prop} (h4 : ∀ k, F k ↔ foot q Ns k) (kF : ∀ k, F k → w0.heap.size ≤ k) : ∀ k, foot q Ns k → w0.heap.size ≤ k := fun k hk => kF k ((h4 k).2 hk)
set_option maxHeartbeats 6400000 in
set_option maxRecDepth 100000 in
theorem quickInsertL {w0 w : World} (hl : Laid w0) (hb0 : Below w0.heap.size w0 w) (hN : w0.heap.size ≤ w.heap.size) {q : Nat} {F : Nat → Prop} {L : List ByteArray} {ls : List Nat} (h : QuickL w q F L ls) (kF : ∀ k, F k → w0.heap.size ≤ k) (a : Int) (ha : -9223372036854775808 ≤ a ∧ a ≤ 9223372036854775807) (s : ByteArray) (hs : s.size ≤ 9000000000000000000) :
    Calls Tryz.prog 92 #[pv q, .int .i64 a, .string s] w fun e w' => e = .returned (.int .i64 (insQ L a s).1) ∧ (∃ F', QuickL w' q F' (insQ L a s).2 (if (insQ L a s).1 = 0 then insL ls a.toNat else ls) ∧ Fresh w F F') ∧ Chg F w w' := by
  have hF0 := h
  obtain ⟨Ns, h1, h2, h3, hls, h4⟩ := h
  have q0 : w.cell? ⟨q, 0, none⟩ = some (.bool true) := cell_in h1.head (i := 0) rfl
  have q3 : w.cell? ⟨q, 3, none⟩ = some (.int .i64 (L.length : Nat)) := cell_in h1.head (i := 3) rfl
  have HS := Lib.hid (show (∃ F', QuickL w q F' L ls ∧ Fresh w F F') ∧ Chg F w w from ⟨⟨F, hF0, fun k hk => .inl hk⟩, Chg.refl _ _⟩)
  clear hF0
  by_cases c1 : a < 0 ∨ (L.length : Int) < a
  · have hv : insQ L a s = (1, L) := by unfold insQ; rw [if_pos c1]
    rw [hv, if_neg (by simp)]
    clear hv h1 h2 h3 h4 hl hb0 kF
    generalize L.length = n at *
    by_cases c2 : a < 0
    · have d1 : decide (a < 0) = true := decide_eq_true c2
      clear c1 c2
      go_enter Tryz.func92, Tryz.ntmps92
      go_wp2_with fail
      go_ret
      exact ⟨rfl, HS.out⟩
    · have d1 : decide (a < 0) = false := decide_eq_false c2
      have d2 : decide ((n : Int) < a) = true := decide_eq_true (by omega)
      clear c1 c2
      go_enter Tryz.func92, Tryz.ntmps92
      go_wp2_with fail
      go_ret
      exact ⟨rfl, HS.out⟩
  · obtain ⟨m, rfl⟩ : ∃ m : Nat, a = (m : Int) := ⟨a.toNat, by omega⟩
    have d1 : decide ((m : Int) < 0) = false := decide_eq_false (by omega)
    have d2 : decide ((L.length : Int) < (m : Int)) = false := decide_eq_false (by omega)
    have d2' : decide (L.length < m) = false := decide_eq_false (by omega)
    by_cases c3 : 65536 < s.size ∨ 1048576 ≤ L.length
    · have hv : insQ L m s = (3, L) := by unfold insQ; rw [if_neg c1, if_pos c3]
      rw [hv, if_neg (by simp)]
      clear hv h1 h2 h3 h4 hl hb0 kF c1
      generalize L.length = n at *
      by_cases c4 : 65536 < s.size
      · have d3 : decide ((65536 : Int) < (s.size : Int)) = true := decide_eq_true (by omega)
        clear c3 c4
        go_enter Tryz.func92, Tryz.ntmps92
        go_wp2_with fail
        go_ret
        exact ⟨rfl, HS.out⟩
      · have d3 : decide ((65536 : Int) < (s.size : Int)) = false := decide_eq_false (by omega)
        have d4 : decide ((1048576 : Int) ≤ (n : Int)) = true := decide_eq_true (by omega)
        clear c3 c4
        go_enter Tryz.func92, Tryz.ntmps92
        go_wp2_with fail
        go_ret
        exact ⟨rfl, HS.out⟩
    · have hv : insQ L m s = (0, L.take m ++ [s] ++ L.drop m) := by unfold insQ; rw [if_neg c1, if_neg c3, Int.toNat_natCast]
      rw [hv, if_pos rfl, Int.toNat_natCast]
      have d3 : decide ((65536 : Int) < (s.size : Int)) = false := decide_eq_false (by omega)
      have d4 : decide ((1048576 : Int) ≤ (L.length : Int)) = false := decide_eq_false (by omega)
      have hmn : m ≤ L.length := by omega
      have hnb : L.length < 1048576 := by omega
      have hfn : (flatN Ns).length = L.length := by rw [h3]
      have kq := foot_ge h4 kF
      have H := Lib.hid (And.intro hl (And.intro hb0 (And.intro hN (And.intro kq (And.intro h4 (show s.size ≤ 65536 by omega))))))
      -- what the last part gives, in the form of the contract
      have HRes := Lib.hid (show ∀ Ns2 wc w6, (flatN Ns2 = L ∧ (∀ k, foot q Ns2 k → foot q Ns k ∨ w.heap.size ≤ k) ∧ Chg (foot q Ns) w wc) → (∃ G, QuickL w6 q G ((flatN Ns2).take m ++ [s] ++ (flatN Ns2).drop m) (insL ls m) ∧ Fresh wc (foot q Ns2) G) → Chg (foot q Ns2) wc w6 → (∃ F', QuickL w6 q F' (L.take m ++ [s] ++ L.drop m) (insL ls m) ∧ Fresh w F F') ∧ Chg F w w6 from fun Ns2 wc w6 ⟨e1, e2, e3⟩ ⟨G, g1, g2⟩ e4 => by
        rw [e1] at g1
        refine ⟨⟨G, g1, fun k hk => ?_⟩, (e3.trans e4 fun k hk hlt => ?_).mono fun k hk _ => (h4 k).2 hk⟩
        · rcases g2 k hk with h5 | h5
          · exact (e2 k h5).imp (fun h6 => (h4 k).2 h6) id
          · exact .inr (Nat.le_trans e3.size h5)
        · rcases e2 k hk with h5 | h5
          · exact h5
          · omega)
      clear hv c1 c3 hl hb0 kF HS hs hN
      cases Ns with
      | nil =>
        have hn0 : L.length = 0 := by rw [← hfn]; rfl
        have HN := Lib.hid (packNew w)
        have q1 : w.cell? ⟨q, 1, none⟩ = some (.pointer none) := cell_in h1.head (i := 1) rfl
        have HQ0 := Lib.hid (And.intro h1 (And.intro h3 hn0))
        clear h1 h2 h3 h4 kq hfn hn0
        generalize L.length = n at *
        go_enter Tryz.func92, Tryz.ntmps92
        go_wp2_with fail
        refine HN.out.mono ?_
        rintro e w1 ⟨p, rfl, ⟨F1, p1, k1⟩, _, ch1⟩
        have hq1 := HQ0.out.1.chg ch1 fun _ _ => id
        have HLk := Lib.hid (link_first hq1 p1)
        have HC1 := Lib.hid (And.intro ch1 (And.intro k1 hq1))
        clear p1 k1 ch1 hq1 q0 q1 q3
        go_wp2_with fail
        refine HLk.out.mono ?_
        rintro e w2 ⟨rfl, hq2, ch2⟩
        have HFd := Lib.hid (find_any hq2 0 (by simp) (by omega))
        have HC2 := Lib.hid (And.intro ch2 hq2)
        clear ch2 hq2 HLk
        obtain rfl : m = 0 := by have := HQ0.out.2.2; omega
        rw [show ((0 : Nat) : Int) = 0 from rfl] at HFd
        go_wp2_with fail
        refine HFd.out.mono ?_
        rintro e w3 ⟨⟨hnil, _⟩ | ⟨A, nd, B, pl, hat, rfl⟩, b3⟩
        · exact absurd hnil (by simp)
        · have hch : Chg (foot q []) w w3 := (HC1.out.1.mono fun k hk _ => hk.elim).trans ((HC2.out.1.mono fun k hk _ => (.inl hk : foot q [] k)).trans (Chg.of_below (foot q []) b3) fun k hk _ => hk) fun k hk _ => hk
          have HB := Lib.hid (show Below w0.heap.size w0 w3 from belowChg H.out.2.1 hch H.out.2.2.1 fun k hk _ => H.out.2.2.2.1 k hk)
          have hAB : A = [] ∧ B = [] ∧ nd = ⟨w1.heap.size, p, F1, []⟩ := by
            have e := hat.eq
            cases A with
            | nil => simp only [List.nil_append, List.cons.injEq] at e; exact ⟨rfl, e.2.symm, e.1.symm⟩
            | cons u A => simp at e
          have hfr : (∀ k, foot q [⟨w1.heap.size, p, F1, []⟩] k → foot q [] k ∨ w.heap.size ≤ k) := fun k hk => by
            rcases hk with hk | ⟨u, hu, hk⟩
            · exact .inl (.inl hk)
            · rw [List.mem_singleton] at hu
              subst hu
              rcases hk with hk | hk
              · exact .inr (by have := HC1.out.1.size; rw [hk]; exact this)
              · exact .inr (HC1.out.2.1 k hk)
          have HQ := Lib.hid (HC2.out.2.below b3)
          have HAt := Lib.hid hat
          have hlt : nd.T.length < 32 := by rw [hAB.2.2]; simp
          have HG := Lib.hid (show Good A ∧ Good B by rw [hAB.1, hAB.2.1]; exact ⟨fun _ h => by simp at h, fun _ h => by simp at h⟩)
          have HLs := Lib.hid (show lensN A ++ (nd.T.length + 1) :: lensN B = insL ls 0 by rw [hAB.1, hAB.2.1, hAB.2.2, ← hls]; rfl)
          have HNn := Lib.hid (show n = (flatN [(⟨w1.heap.size, p, F1, []⟩ : Nd)]).length by rw [HQ0.out.2.2]; rfl)
          have HFr := Lib.hid (And.intro (show flatN [(⟨w1.heap.size, p, F1, []⟩ : Nd)] = L by rw [← HQ0.out.2.1]; rfl) (And.intro hfr hch))
          clear hat hAB hfr hch b3
          have hq4 := HQ.out
          rw [HAt.out.eq] at hq4
          have xn := cell_in hq4.node (i := 0) rfl
          have hp4 := hq4.packs nd (by simp)
          have hle := HAt.out.le
          have hpb : pl ≤ 32 := by omega
          have HL4 := Lib.hid (packLen hp4)
          have hne : ((nd.T.length : Int) == 32) = false := by rw [beq_eq_false_iff_ne]; omega
          have HI4 := Lib.hid (packInsert hp4 (H.out.1.below HB.out) (pl : Int) (by omega) s (by have := H.out.2.2.2.2.2; omega))
          rw [insP_few hp4.ok.each (by omega) hle H.out.2.2.2.2.2] at HI4
          have HFin := Lib.hid (fun w5 F5 (h5 : PackF w5 nd.p F5 (nd.T.take pl ++ [s] ++ nd.T.drop pl)) (h6 : Fresh w3 nd.F F5) (h7 : Chg nd.F w3 w5) => ins_last HQ.out HAt.out HG.out hlt HNn.out H.out.2.2.2.2.2 h5 h6 h7)
          obtain ⟨nT, hnT⟩ : ∃ nT, nd.T.length = nT := ⟨_, rfl⟩
          rw [hnT] at HL4 hne hlt hle
          clear hq4 hp4 hnT
          go_wp2_with fail
          refine HL4.out.mono ?_
          rintro e w5 ⟨rfl, rfl⟩
          go_wp2_with fail
          refine HI4.out.mono ?_
          rintro e w5 ⟨rfl, ⟨F5, h5, h6⟩, h7⟩
          have HE := Lib.hid (HFin.out w5 F5 h5 h6 h7)
          have y0 := HE.out.2.2.1
          have y1 := HE.out.2.2.2
          clear h5 h6 h7
          go_wp2_with fail
          go_ret
          exact ⟨rfl, HRes.out _ w3 _ HFr.out (HLs.out ▸ HE.out.1) HE.out.2.1⟩
      | cons u Ns =>
        have q1 : w.cell? ⟨q, 1, none⟩ = some (pv u.x) := cell_in h1.head (i := 1) rfl
        have HFd := Lib.hid (find_any h1 m (by omega) (by omega))
        have HQ0 := Lib.hid (And.intro h1 (And.intro h2 (And.intro h3 hfn)))
        clear h1 h2 h3 h4 kq hfn
        generalize hnn : L.length = n at *
        go_enter Tryz.func92, Tryz.ntmps92
        go_wp2_with fail
        refine HFd.out.mono ?_
        rintro e w3 ⟨⟨hnil, _⟩ | ⟨A, nd, B, pl, hat, rfl⟩, b3⟩
        · exact absurd hnil (by simp)
        · have HQ := Lib.hid (HQ0.out.1.below b3)
          have HB := Lib.hid (show Below w0.heap.size w0 w3 from H.out.2.1.trans (b3.mono H.out.2.2.1))
          have HAt := Lib.hid hat
          have hgd := HQ0.out.2.1
          have HG := Lib.hid (show Good A ∧ Good B by
            rw [hat.eq] at hgd
            exact ⟨fun x hx => hgd x (by simp [hx]), fun x hx => hgd x (by simp [hx])⟩)
          have hle32 : nd.T.length ≤ 32 := (hgd nd (by rw [hat.eq]; simp)).2
          have hB3 := b3
          have HB3 := Lib.hid b3
          clear hgd b3 hat hB3
          by_cases hlt : nd.T.length < 32
          · have HLs := Lib.hid (show lensN A ++ (nd.T.length + 1) :: lensN B = insL ls m by rw [← hls, HAt.out.lens HQ0.out.2.1, if_neg (by omega)])
            have HNn := Lib.hid (show n = (flatN (u :: Ns)).length from HQ0.out.2.2.2.symm)
            have HFr := Lib.hid (And.intro HQ0.out.2.2.1 (And.intro (show ∀ k, foot q (u :: Ns) k → foot q (u :: Ns) k ∨ w.heap.size ≤ k from fun k hk => .inl hk) (Chg.of_below (foot q (u :: Ns)) HB3.out)))
            have hq4 := HQ.out
            rw [HAt.out.eq] at hq4
            have xn := cell_in hq4.node (i := 0) rfl
            have hp4 := hq4.packs nd (by simp)
            have hle := HAt.out.le
            have hpb : pl ≤ 32 := by omega
            have HL4 := Lib.hid (packLen hp4)
            have hne : ((nd.T.length : Int) == 32) = false := by rw [beq_eq_false_iff_ne]; omega
            have HI4 := Lib.hid (packInsert hp4 (H.out.1.below HB.out) (pl : Int) (by omega) s (by have := H.out.2.2.2.2.2; omega))
            rw [insP_few hp4.ok.each (by omega) hle H.out.2.2.2.2.2] at HI4
            have HFin := Lib.hid (fun w5 F5 (h5 : PackF w5 nd.p F5 (nd.T.take pl ++ [s] ++ nd.T.drop pl)) (h6 : Fresh w3 nd.F F5) (h7 : Chg nd.F w3 w5) => ins_last HQ.out HAt.out HG.out hlt HNn.out H.out.2.2.2.2.2 h5 h6 h7)
            obtain ⟨nT, hnT⟩ : ∃ nT, nd.T.length = nT := ⟨_, rfl⟩
            rw [hnT] at HL4 hne hlt hle
            clear hq4 hp4 hnT
            go_wp2_with fail
            refine HL4.out.mono ?_
            rintro e w5 ⟨rfl, rfl⟩
            go_wp2_with fail
            refine HI4.out.mono ?_
            rintro e w5 ⟨rfl, ⟨F5, h5, h6⟩, h7⟩
            have HE := Lib.hid (HFin.out w5 F5 h5 h6 h7)
            have y0 := HE.out.2.2.1
            have y1 := HE.out.2.2.2
            clear h5 h6 h7
            go_wp2_with fail
            go_ret
            exact ⟨rfl, HRes.out _ w3 _ HFr.out (HLs.out ▸ HE.out.1) HE.out.2.1⟩
          · have h32 : nd.T.length = 32 := by omega
            have hq4 := HQ.out
            rw [HAt.out.eq] at hq4
            have hp4 := hq4.packs nd (by simp)
            have HL4 := Lib.hid (packLen hp4)
            have hne : ((nd.T.length : Int) == 32) = true := by rw [beq_iff_eq]; omega
            have hx4 := hq4.node
            have xn := cell_in hx4 (i := 0) rfl
            obtain ⟨X1, f, hX1, hf, hF⟩ := classOf (fun y => y.cell? ⟨nd.x, 0, none⟩ = some (pv nd.p)) (w := w3.drew) (cell_in (show w3.drew.heap[nd.x]? = _ from hx4) (i := 0) rfl)
            have H0 := Lib.hid (hF w3.drew (cell_in (show w3.drew.heap[nd.x]? = _ from hx4) (i := 0) rfl))
            have HFc := Lib.hid hF
            have HN := Lib.hid (packNew w3.drew)
            have HQ4 := Lib.hid (show QRow w3.drew q (A ++ nd :: B) (n : Nat) from hq4.below (belowN (Below.refl _ _) 1))
            have HB4 := Lib.hid (show Below w0.heap.size w0 w3.drew from belowN HB.out 1)
            have HC4 := Lib.hid (show Chg (foot q (u :: Ns)) w w3.drew from (Chg.of_below (foot q (u :: Ns)) HB3.out).trans (Chg.drew (foot q (u :: Ns)) w3) fun k hk _ => hk)
            obtain ⟨nT, hnT⟩ : ∃ nT, nd.T.length = nT := ⟨_, rfl⟩
            rw [hnT] at HL4 hne
            have H32 := Lib.hid h32
            clear hq4 hp4 hx4 hnT hF h32 hlt hle32 HQ HB HB3
            go_wp2_with fail
            refine HL4.out.mono ?_
            rintro e w' ⟨rfl, rfl⟩
            go_wp2_with fail
            refine wp_region_text ⟨[6, 7, 10, 11], [8, 9], 11⟩ (fun w' => ∃ x : X1, w' = f x) (by kernel_rfl) (by kernel_rfl) H0.out ?_
            refine wpC_seg false (H0.out) 6 0 _ _ (by rfl) (by rfl) ?_
            simp only [List.take_succ_cons, List.take_zero, List.drop_succ_cons, List.drop_zero, Bool.false_eq_true, if_false, Nat.zero_add, Nat.reduceAdd]
            repeat (go_big_quiet_step (fail))
            refine wpQuiet_nil ?_
            refine wpC_loud (by rfl) (by rfl) fun K hK => ?_
            go_wp2_with fail
            refine HN.out.mono ?_
            rintro e w5 ⟨p, rfl, ⟨F1, p1, k1⟩, hpn, ch5⟩
            have hq5 := HQ4.out.chg ch5 fun _ _ => id
            have H5 := Lib.hid (HFc.out w5 (cell_in hq5.node (i := 0) rfl))
            have hd5 : ∀ v ∈ A ++ nd :: B, ∀ k, v.F k → ¬ F1 k := fun v hv k hk hF => by
              have := (HQ4.out.packs v hv).lt hk
              have := k1 k hF
              omega
            have HLk := Lib.hid (link_mid hq5 p1 hd5)
            have HC5 := Lib.hid (And.intro ch5 (And.intro k1 hq5))
            refine hK _ _ (fun _ => H5.out) ?_
            clear hK p1 k1 ch5 hq5 hd5 hpn HN
            refine wpC_loud (by rfl) (by rfl) fun K hK => ?_
            go_wp2_with fail
            refine HLk.out.mono ?_
            rintro e w6 ⟨rfl, hq6, ch6⟩
            have hq6' : QRow w6 q ((A ++ [nd]) ++ ⟨w5.heap.size, p, F1, []⟩ :: B) (n : Nat) := by simpa using hq6
            have hy6 := hq6'.node
            have H6 := Lib.hid (HFc.out w6 (cell_in hq6.node (i := 0) rfl))
            have hsz5 : w.heap.size ≤ w5.heap.size := Nat.le_trans HC4.out.size HC5.out.1.size
            have hfn6 : ∀ k, (k = q ∨ ∃ v ∈ nd :: B, k = v.x) → foot q (u :: Ns) k := fun k hk => by
              rcases hk with hk | ⟨v, hv, hk⟩
              · exact .inl hk
              · exact .inr ⟨v, by rw [HAt.out.eq]; simp only [List.mem_append, List.mem_cons] at hv ⊢; exact .inr hv, .inl hk⟩
            have hc6 : Chg (foot q (u :: Ns)) w w6 := (HC4.out.trans HC5.out.1 fun k hk _ => hk.elim).trans ch6 fun k hk _ => hfn6 k hk
            have hb6 : Below w0.heap.size w0 w6 := belowChg H.out.2.1 hc6 H.out.2.2.1 fun k hk _ => H.out.2.2.2.1 k hk
            have hT4 := (HQ4.out.packs nd (by simp)).ok.each
            have HPr := Lib.hid (pour_any H.out.1 hb6 (Nat.le_trans H.out.2.2.1 hc6.size) (hq6.packs nd (by simp)) (hq6'.packs ⟨w5.heap.size, p, F1, []⟩ (by simp)) (by
                have ha := apart_mid.1 hq6'.apart
                exact ha.2.2.1 nd (by simp)) (fun k hk => H.out.2.2.2.1 k (.inr ⟨nd, by rw [HAt.out.eq]; simp, .inr hk⟩)) (fun k hk => Nat.le_trans H.out.2.2.1 (Nat.le_trans HC4.out.size (HC5.out.2.1 k hk))) 16 (by have := H32.out; omega)
                (by rw [List.nil_append]; exact okl_few (fun x hx => hT4 x (List.mem_of_mem_drop hx)) (by have := H32.out; rw [List.length_drop]; omega)))
            rw [List.nil_append] at HPr
            have HQ6 := Lib.hid (And.intro hq6 (And.intro hc6 hb6))
            refine hK _ _ (fun _ => H6.out) ?_
            have hyc : w6.cell? ⟨w5.heap.size, 0, none⟩ = some (pv p) := cell_in hy6 (i := 0) rfl
            clear hK hq6 ch6 hq6' hy6 hsz5 hc6 hb6 hT4 HLk
            refine wpC_seg true (H6.out) 2 8 _ _ (by rfl) (by rfl) ?_
            simp only [List.take_succ_cons, List.take_zero, List.drop_succ_cons, List.drop_zero, if_true, Nat.zero_add, Nat.reduceAdd]
            repeat (go_big_quiet_step (fail))
            refine wpQuiet_nil ?_
            refine wpC_loud (by rfl) (by rfl) fun K hK => ?_
            go_wp2_with fail
            refine hK _ _ (fun _ => H6.out) ?_
            clear hK
            refine wpC_loud (by rfl) (by rfl) fun K hK => ?_
            go_wp2_with fail
            refine HPr.out.mono ?_
            rintro e w7 ⟨⟨v7, rfl⟩, ⟨Fu, Fv, pu, pvv, fu, fv, hd7⟩, ch7⟩
            have hq7 : QRow w7 q (A ++ ⟨nd.x, nd.p, Fu, nd.T.take 16⟩ :: ⟨w5.heap.size, p, Fv, nd.T.drop 16⟩ :: B) (n : Nat) := HQ6.out.1.setPack2 ch7 pu pvv fu fv hd7
            have hc7 : Chg (foot q (u :: Ns)) w w7 := HQ6.out.2.1.trans ch7 fun k hk hlt => by
              rcases hk with hk | hk
              · exact .inr ⟨nd, by rw [HAt.out.eq]; simp, .inr hk⟩
              · have := HC5.out.2.1 k hk; have := HC4.out.size; omega
            have hf7 : ∀ k, foot q (A ++ ⟨nd.x, nd.p, Fu, nd.T.take 16⟩ :: ⟨w5.heap.size, p, Fv, nd.T.drop 16⟩ :: B) k → foot q (u :: Ns) k ∨ w.heap.size ≤ k := fun k hk => by
              have h46 := HQ6.out.2.1.size
              rcases hk with hk | ⟨v, hv, hk⟩
              · exact .inl (.inl hk)
              · simp only [List.mem_append, List.mem_cons] at hv
                rcases hv with hv | rfl | rfl | hv
                · exact .inl (.inr ⟨v, by rw [HAt.out.eq]; simp [hv], hk⟩)
                · rcases hk with hk | hk
                  · exact .inl (.inr ⟨nd, by rw [HAt.out.eq]; simp, .inl hk⟩)
                  · rcases fu k hk with h8 | h8
                    · exact .inl (.inr ⟨nd, by rw [HAt.out.eq]; simp, .inr h8⟩)
                    · exact .inr (by omega)
                · rcases hk with hk | hk
                  · exact .inr (by have := HC4.out.size; have := HC5.out.1.size; simp only at hk; omega)
                  · rcases fv k hk with h8 | h8
                    · have := HC5.out.2.1 k h8; have := HC4.out.size; exact .inr (by omega)
                    · exact .inr (by omega)
                · exact .inl (.inr ⟨v, by rw [HAt.out.eq]; simp [hv], hk⟩)
            have HQ7 := Lib.hid (And.intro hq7 (And.intro hc7 hf7))
            refine hK _ _ (fun h => absurd h (by decide)) ?_
            clear hK pu pvv fu fv hd7 ch7 hq7 hc7 hf7 HPr hyc
            refine wpC_nil ?_
            clear hf hX1 H0 H5 H6 HFc f X1
            have hspf : flatN (A ++ ⟨nd.x, nd.p, Fu, nd.T.take 16⟩ :: ⟨w5.heap.size, p, Fv, nd.T.drop 16⟩ :: B) = flatN (u :: Ns) := split_flat HAt.out rfl rfl
            have HFd2 := Lib.hid (find_any HQ7.out.1 m (by rw [hspf, HQ0.out.2.2.2]; exact hmn) (by omega))
            have HSp := Lib.hid hspf
            clear hspf
            go_wp2_with fail
            refine HFd2.out.mono ?_
            rintro e w8 ⟨⟨hnil, _⟩ | ⟨A8, nd8, B8, pl8, hat8, rfl⟩, b8⟩
            · exact absurd hnil (by simp)
            · have hgood : Good A ∧ Good B := HG.out
              have hg8 : Good (A ++ ⟨nd.x, nd.p, Fu, nd.T.take 16⟩ :: ⟨w5.heap.size, p, Fv, nd.T.drop 16⟩ :: B) := fun v hv => by
                have h32 := H32.out
                simp only [List.mem_append, List.mem_cons] at hv
                rcases hv with hv | rfl | rfl | hv
                · exact hgood.1 v hv
                · exact ⟨fun e => by
                    change nd.T.take 16 = [] at e
                    have h9 := congrArg List.length e
                    rw [List.length_take, h32] at h9
                    exact absurd h9 (by decide), by rw [List.length_take]; omega⟩
                · exact ⟨fun e => by
                    change nd.T.drop 16 = [] at e
                    have h9 := congrArg List.length e
                    rw [List.length_drop, h32] at h9
                    exact absurd h9 (by decide), by rw [List.length_drop]; omega⟩
                · exact hgood.2 v hv
              have hsmall : nd8.T.length < 32 ∧ lensN A8 ++ (nd8.T.length + 1) :: lensN B8 = insL ls m := by
                have h32 := H32.out
                have hl := HAt.out.lens HQ0.out.2.1
                rw [if_pos h32, hls] at hl
                rcases split_at (u := ⟨nd.x, nd.p, Fu, nd.T.take 16⟩) (v := ⟨w5.heap.size, p, Fv, nd.T.drop 16⟩) HAt.out rfl rfl h32 with ⟨hp9, h9⟩ | ⟨hp9, h9⟩
                · obtain ⟨e1, e, e2, _⟩ := hat8.unique hg8 h9
                  rw [if_pos hp9] at hl
                  have hT : nd8.T.length = 16 := by rw [e, List.length_take]; omega
                  refine ⟨by omega, ?_⟩
                  rw [hl, hT, e1, e2]
                  have : (nd.T.drop 16).length = 16 := by rw [List.length_drop]; omega
                  simp [lensN, this]
                · obtain ⟨e1, e, e2, _⟩ := hat8.unique hg8 h9
                  rw [if_neg (by omega)] at hl
                  have hT : nd8.T.length = 16 := by rw [e, List.length_drop]; omega
                  refine ⟨by omega, ?_⟩
                  rw [hl, hT, e1, e2]
                  have : (nd.T.take 16).length = 16 := by rw [List.length_take]; omega
                  simp [lensN, this]
              have HLs := Lib.hid hsmall.2
              have hsmall := hsmall.1
              have HQ := Lib.hid (HQ7.out.1.below b8)
              have HB := Lib.hid (show Below w0.heap.size w0 w8 from belowChg H.out.2.1 (HQ7.out.2.1.trans (Chg.of_below (foot q (u :: Ns)) b8) fun k hk _ => hk) H.out.2.2.1 fun k hk _ => H.out.2.2.2.1 k hk)
              have HG8 := Lib.hid (show Good A8 ∧ Good B8 by
                rw [hat8.eq] at hg8
                exact ⟨fun x hx => hg8 x (by simp [hx]), fun x hx => hg8 x (by simp [hx])⟩)
              have HNn := Lib.hid (show n = (flatN (A ++ ⟨nd.x, nd.p, Fu, nd.T.take 16⟩ :: ⟨w5.heap.size, p, Fv, nd.T.drop 16⟩ :: B)).length by rw [HSp.out]; exact HQ0.out.2.2.2.symm)
              have HFr := Lib.hid (And.intro (show flatN (A ++ ⟨nd.x, nd.p, Fu, nd.T.take 16⟩ :: ⟨w5.heap.size, p, Fv, nd.T.drop 16⟩ :: B) = L by rw [HSp.out]; exact HQ0.out.2.2.1) (And.intro HQ7.out.2.2 (HQ7.out.2.1.trans (Chg.of_below (foot q (u :: Ns)) b8) fun k hk _ => hk)))
              have HAt8 := Lib.hid hat8
              clear hgood hg8 hat8 b8 HG HAt
              generalize (A ++ ⟨nd.x, nd.p, Fu, nd.T.take 16⟩ :: ⟨w5.heap.size, p, Fv, nd.T.drop 16⟩ :: B) = Ns8 at *
              have hq4 := HQ.out
              rw [HAt8.out.eq] at hq4
              have xn := cell_in hq4.node (i := 0) rfl
              have hp4 := hq4.packs nd8 (by simp)
              have hle := HAt8.out.le
              have hpb : pl8 ≤ 32 := by omega
              have HL4 := Lib.hid (packLen hp4)
              have hne : ((nd8.T.length : Int) == 32) = false := by rw [beq_eq_false_iff_ne]; omega
              have HI4 := Lib.hid (packInsert hp4 (H.out.1.below HB.out) (pl8 : Int) (by omega) s (by have := H.out.2.2.2.2.2; omega))
              rw [insP_few hp4.ok.each (by omega) hle H.out.2.2.2.2.2] at HI4
              have HFin := Lib.hid (fun w5 F5 (h5 : PackF w5 nd8.p F5 (nd8.T.take pl8 ++ [s] ++ nd8.T.drop pl8)) (h6 : Fresh w8 nd8.F F5) (h7 : Chg nd8.F w8 w5) => ins_last HQ.out HAt8.out HG8.out hsmall HNn.out H.out.2.2.2.2.2 h5 h6 h7)
              obtain ⟨nT, hnT⟩ : ∃ nT, nd8.T.length = nT := ⟨_, rfl⟩
              rw [hnT] at HL4 hne hsmall hle
              clear hq4 hp4 hnT
              go_wp2_with fail
              refine HI4.out.mono ?_
              rintro e w5 ⟨rfl, ⟨F5, h5, h6⟩, h7⟩
              have HE := Lib.hid (HFin.out w5 F5 h5 h6 h7)
              have y0 := HE.out.2.2.1
              have y1 := HE.out.2.2.2
              clear h5 h6 h7
              go_wp2_with fail
              go_ret
              exact ⟨rfl, HRes.out _ w8 _ HFr.out (HLs.out ▸ HE.out.1) HE.out.2.1⟩
theorem quickInsert {w0 w : World} (hl : Laid w0) (hb0 : Below w0.heap.size w0 w) (hN : w0.heap.size ≤ w.heap.size) {q : Nat} {F : Nat → Prop} {L : List ByteArray} (h : QuickF w q F L) (kF : ∀ k, F k → w0.heap.size ≤ k) (a : Int) (ha : -9223372036854775808 ≤ a ∧ a ≤ 9223372036854775807) (s : ByteArray) (hs : s.size ≤ 9000000000000000000) :
    Calls Tryz.prog 92 #[pv q, .int .i64 a, .string s] w fun e w' => e = .returned (.int .i64 (insQ L a s).1) ∧ (∃ F', QuickF w' q F' (insQ L a s).2 ∧ Fresh w F F') ∧ Chg F w w' := by
  obtain ⟨ls, h⟩ := h.toL
  exact (quickInsertL hl hb0 hN h kF a ha s hs).mono fun e w' ⟨h1, ⟨F', h2, h3⟩, h4⟩ => ⟨h1, ⟨F', h2.toF, h3⟩, h4⟩
end Go.Proofs.YtlecnlnpgghmbaaGreatDoor

/- quick: join. -/
namespace Go.Proofs.YtlecnlnpgghmbaaGreatDoor
set_option linter.unusedVariables false
set_option linter.unusedSimpArgs false
open Go.RowKit
set_option maxHeartbeats 1600000 in
set_option maxRecDepth 100000 in
theorem join_nil {w : World} (q : Nat) : Calls Tryz.prog 173 #[pv q, .pointer none] w fun e w' => e = .returned (.bool false) ∧ Below w.heap.size w w' := by
  obtain ⟨X1, f, hX1, hf, hF⟩ := classOf (fun y => True) (w := w.drew) trivial
  have H0 := Lib.hid (hF w.drew trivial)
  clear hf hF
  go_enter Tryz.func173, Tryz.ntmps173
  go_wp2_with fail
  refine wp_region_text ⟨[14, 22], [], 26⟩ (fun w' => ∃ y : X1, w' = f y) (by kernel_rfl) (by kernel_rfl) H0.out ?_
  refine wpC_seg false (H0.out) 14 0 _ _ (by rfl) (by rfl) ?_
  simp only [List.take_succ_cons, List.take_zero, List.drop_succ_cons, List.drop_zero, Bool.false_eq_true, if_false, Nat.zero_add, Nat.reduceAdd]
  repeat (go_big_quiet_step (fail))
  refine wpQuiet_nil ?_
  refine wpC_skip (by rfl) (by rfl) (fun _ => H0.out) ?_
  simp only [Act.put, List.setIfInBounds_toArray, List.set_cons_succ, List.set_cons_zero]
  refine wpC_seg false (H0.out) 7 15 _ _ (by rfl) (by rfl) ?_
  simp only [List.take_succ_cons, List.take_zero, List.drop_succ_cons, List.drop_zero, Bool.false_eq_true, if_false, Nat.zero_add, Nat.reduceAdd]
  repeat (go_big_quiet_step (fail))
  refine wpQuiet_nil ?_
  refine wpC_skip (by rfl) (by rfl) (fun _ => H0.out) ?_
  simp only [Act.put, List.setIfInBounds_toArray, List.set_cons_succ, List.set_cons_zero]
  refine wpC_seg false (H0.out) 3 23 _ _ (by rfl) (by rfl) ?_
  simp only [List.take_succ_cons, List.take_zero, List.drop_succ_cons, List.drop_zero, Bool.false_eq_true, if_false, Nat.zero_add, Nat.reduceAdd]
  repeat (go_big_quiet_step (fail))
  refine wpQuiet_nil ?_
  refine wpC_nil ?_
  go_wp2_with fail
  go_ret
  exact ⟨rfl, belowN (Below.refl _ _) 1⟩
set_option maxHeartbeats 3200000 in
set_option maxRecDepth 100000 in
/-- A node and the one behind it become one, if they are few. -/
theorem join_node {w0 w : World} (hl : Laid w0) (hb0 : Below w0.heap.size w0 w) (hN : w0.heap.size ≤ w.heap.size) {q : Nat} {A B : List Nd} {nd : Nd} {n : Int} (h : QRow w q (A ++ nd :: B) n) (kF : ∀ k, foot q (A ++ nd :: B) k → w0.heap.size ≤ k) (hg : Good (A ++ nd :: B)) :
    Calls Tryz.prog 173 #[pv q, pv nd.x] w fun e w' => ∃ b, e = .returned (.bool b) ∧ ((b = false ∧ Below w.heap.size w w') ∨
      (b = true ∧ ∃ v B' F', B = v :: B' ∧ nd.T.length + v.T.length ≤ 16 ∧ QRow w' q (A ++ ⟨nd.x, nd.p, F', nd.T ++ v.T⟩ :: B') n ∧ Fresh w nd.F F' ∧ Chg (foot q (A ++ nd :: B)) w w')) := by
  cases B with
  | nil =>
    have hx := h.node
    have c2 : ∀ w' : World, w'.heap[nd.x]? = w.heap[nd.x]? → w'.cell? ⟨nd.x, 2, none⟩ = some (.pointer none) := fun w' e => cell_in (e.trans hx) (i := 2) rfl
    obtain ⟨X1, f, hX1, hf, hF⟩ := classOf (fun y => y.cell? ⟨nd.x, 2, none⟩ = some (.pointer none)) (w := w.drew) (c2 _ rfl)
    have H0 := Lib.hid (hF w.drew (c2 _ rfl))
    clear hF c2 hx h kF hg
    go_enter Tryz.func173, Tryz.ntmps173
    go_wp2_with fail
    refine wp_region_text ⟨[14, 22], [], 26⟩ (fun w' => ∃ y : X1, w' = f y) (by kernel_rfl) (by kernel_rfl) H0.out ?_
    refine wpC_seg false (H0.out) 14 0 _ _ (by rfl) (by rfl) ?_
    simp only [List.take_succ_cons, List.take_zero, List.drop_succ_cons, List.drop_zero, Bool.false_eq_true, if_false, Nat.zero_add, Nat.reduceAdd]
    repeat (go_big_quiet_step (fail))
    refine wpQuiet_nil ?_
    refine wpC_skip (by rfl) (by rfl) (fun _ => H0.out) ?_
    simp only [Act.put, List.setIfInBounds_toArray, List.set_cons_succ, List.set_cons_zero]
    refine wpC_seg false (H0.out) 7 15 _ _ (by rfl) (by rfl) ?_
    simp only [List.take_succ_cons, List.take_zero, List.drop_succ_cons, List.drop_zero, Bool.false_eq_true, if_false, Nat.zero_add, Nat.reduceAdd]
    repeat (go_big_quiet_step (fail))
    refine wpQuiet_nil ?_
    refine wpC_skip (by rfl) (by rfl) (fun _ => H0.out) ?_
    simp only [Act.put, List.setIfInBounds_toArray, List.set_cons_succ, List.set_cons_zero]
    refine wpC_seg false (H0.out) 3 23 _ _ (by rfl) (by rfl) ?_
    simp only [List.take_succ_cons, List.take_zero, List.drop_succ_cons, List.drop_zero, Bool.false_eq_true, if_false, Nat.zero_add, Nat.reduceAdd]
    repeat (go_big_quiet_step (fail))
    refine wpQuiet_nil ?_
    refine wpC_nil ?_
    go_wp2_with fail
    go_ret
    exact ⟨_, rfl, .inl ⟨rfl, belowN (Below.refl _ _) 1⟩⟩
  | cons v B =>
    have hx := h.node
    have hv : QRow w q ((A ++ [nd]) ++ v :: B) n := by simpa using h
    have hvx := hv.node
    have iu : nd ∈ A ++ nd :: v :: B := by simp
    have iv : v ∈ A ++ nd :: v :: B := by simp
    obtain ⟨X1, f, hX1, hf, hF⟩ := classOf (fun y => y.cell? ⟨nd.x, 2, none⟩ = some (pv v.x) ∧ y.cell? ⟨nd.x, 0, none⟩ = some (pv nd.p) ∧ y.cell? ⟨v.x, 0, none⟩ = some (pv v.p)) (w := w.drew) ⟨cell_in (show w.drew.heap[nd.x]? = _ from hx) (i := 2) rfl, cell_in (show w.drew.heap[nd.x]? = _ from hx) (i := 0) rfl, cell_in (show w.drew.heap[v.x]? = _ from hvx) (i := 0) rfl⟩
    have hf1 := fun y => (hf y).1
    have hf2 := fun y => (hf y).2.1
    have hf3 := fun y => (hf y).2.2
    have H0 := Lib.hid (hF w.drew ⟨cell_in (show w.drew.heap[nd.x]? = _ from hx) (i := 2) rfl, cell_in (show w.drew.heap[nd.x]? = _ from hx) (i := 0) rfl, cell_in (show w.drew.heap[v.x]? = _ from hvx) (i := 0) rfl⟩)
    have hbd : Below w.heap.size w w.drew := belowN (Below.refl _ _) 1
    have HL1 := Lib.hid (packLen ((h.packs nd iu).below hbd))
    have HL2 := Lib.hid (packLen ((h.packs v iv).below hbd))
    have hbd2 : Below w.heap.size w w.drew.drew := belowN (Below.refl _ _) 2
    have hx2 : w.drew.drew.heap[nd.x]? = some (nodeO nd.p (lstO none A) (hdO (v :: B) none)) := hx
    have hvx2 : w.drew.drew.heap[v.x]? = some (nodeO v.p (lstO none (A ++ [nd])) (hdO B none)) := hvx
    have H02 := Lib.hid (hF w.drew.drew ⟨cell_in hx2 (i := 2) rfl, cell_in hx2 (i := 0) rfl, cell_in hvx2 (i := 0) rfl⟩)
    have h1 := (hg nd iu).2
    have h2 := (hg v iv).2
    have ha := apart_mid.1 h.apart
    have HPr := Lib.hid (fun (h16 : nd.T.length + v.T.length ≤ 16) => pour_any hl (belowN hb0 2 : Below w0.heap.size w0 w.drew.drew) hN ((h.packs v iv).below hbd2) ((h.packs nd iu).below hbd2) (fun k hk hu => ha.2.2.2.1 v (by simp) k hu hk) (fun k hk => kF k (.inr ⟨v, iv, .inr hk⟩)) (fun k hk => kF k (.inr ⟨nd, iu, .inr hk⟩)) 0 (Nat.zero_le _)
      (by rw [List.drop_zero]; exact okl_few (fun s hs => (List.mem_append.1 hs).elim ((h.packs nd iu).ok.each s) ((h.packs v iv).ok.each s)) (by rw [List.length_append]; omega)))
    have HQ := Lib.hid (And.intro h (And.intro hbd2 (And.intro iu iv)))
    obtain ⟨n1, hn1⟩ : ∃ n1, nd.T.length = n1 := ⟨_, rfl⟩
    obtain ⟨n2, hn2⟩ : ∃ n2, v.T.length = n2 := ⟨_, rfl⟩
    rw [hn1] at HL1 h1 HPr ⊢
    rw [hn2] at HL2 h2 HPr
    by_cases h16 : n1 + n2 ≤ 16
    · have hd : decide ((16 : Int) < (n1 : Int) + (n2 : Int)) = false := decide_eq_false (by omega)
      have HP1 := Lib.hid (HPr.out h16)
      have HN := Lib.hid (And.intro hn1 hn2)
      clear hF hx hvx hx2 hvx2 h hv kF hg hb0 hN hl ha HPr hn1 hn2 iu iv hbd hbd2
      go_enter Tryz.func173, Tryz.ntmps173
      go_wp2_with fail
      refine wp_region_text ⟨[14, 22], [], 26⟩ (fun w' => ∃ y : X1, w' = f y) (by kernel_rfl) (by kernel_rfl) H0.out ?_
      refine wpC_seg false (H0.out) 14 0 _ _ (by rfl) (by rfl) ?_
      simp only [List.take_succ_cons, List.take_zero, List.drop_succ_cons, List.drop_zero, Bool.false_eq_true, if_false, Nat.zero_add, Nat.reduceAdd]
      repeat (go_big_quiet_step (fail))
      refine wpQuiet_nil ?_
      refine wpC_loud (by rfl) (by rfl) fun K hK => ?_
      go_wp2_with fail
      refine HL1.out.mono ?_
      rintro e w5 ⟨rfl, rfl⟩
      refine hK _ _ (fun _ => H0.out) ?_
      clear hK
      refine wpC_seg false (H0.out) 7 15 _ _ (by rfl) (by rfl) ?_
      simp only [List.take_succ_cons, List.take_zero, List.drop_succ_cons, List.drop_zero, Bool.false_eq_true, if_false, Nat.zero_add, Nat.reduceAdd]
      repeat (go_big_quiet_step (fail))
      refine wpQuiet_nil ?_
      refine wpC_loud (by rfl) (by rfl) fun K hK => ?_
      go_wp2_with fail
      refine HL2.out.mono ?_
      rintro e w5 ⟨rfl, rfl⟩
      refine hK _ _ (fun _ => H0.out) ?_
      clear hK
      refine wpC_seg false (H0.out) 3 23 _ _ (by rfl) (by rfl) ?_
      simp only [List.take_succ_cons, List.take_zero, List.drop_succ_cons, List.drop_zero, Bool.false_eq_true, if_false, Nat.zero_add, Nat.reduceAdd]
      repeat (go_big_quiet_step (fail))
      refine wpQuiet_nil ?_
      refine wpC_nil ?_
      go_wp2_with fail
      refine wp_region_text ⟨[11], [], 11⟩ (fun w' => ∃ y : X1, w' = f y) (by kernel_rfl) (by kernel_rfl) H02.out ?_
      refine wpC_seg false (H02.out) 11 0 _ _ (by rfl) (by rfl) ?_
      simp only [List.take_succ_cons, List.take_zero, List.drop_succ_cons, List.drop_zero, Bool.false_eq_true, if_false, Nat.zero_add, Nat.reduceAdd]
      repeat (go_big_quiet_step (fail))
      refine wpQuiet_nil ?_
      refine wpC_loud (by rfl) (by rfl) fun K hK => ?_
      go_wp2_with fail
      refine HP1.out.mono ?_
      rintro e w7 ⟨⟨v7, rfl⟩, ⟨Fv, Fu, pv', pu', fv, fu, hd7⟩, ch7⟩
      rw [List.drop_zero] at pu'
      have hq2 := HQ.out.1.below HQ.out.2.1
      have hq7 : QRow w7 q (A ++ ⟨nd.x, nd.p, Fu, nd.T ++ v.T⟩ :: ⟨v.x, v.p, Fv, v.T.take 0⟩ :: B) n := hq2.setPack2 (ch7.mono fun k hk _ => hk.symm) pu' pv' fu fv fun k a b => hd7 k b a
      have hq7' : QRow w7 q ((A ++ [⟨nd.x, nd.p, Fu, nd.T ++ v.T⟩]) ++ ⟨v.x, v.p, Fv, v.T.take 0⟩ :: B) n := by simpa using hq7
      have x7 : w7.cell? ⟨nd.x, 2, none⟩ = some (pv v.x) := cell_in hq7.node (i := 2) rfl
      have HU := Lib.hid (unlink_any hq7')
      have HF7 := Lib.hid (And.intro fu ch7)
      refine hK _ _ (fun h => absurd h (by decide)) ?_
      clear hK hq2 hq7 hq7' pv' pu' fv fu hd7 ch7
      refine wpC_nil ?_
      clear hf hf1 hf2 hf3 hX1 H0 H02 f X1
      go_wp2_with fail
      refine HU.out.mono ?_
      rintro e w8 ⟨⟨v8, rfl⟩, hq8, ch8⟩
      have HE := Lib.hid (And.intro hq8 ch8)
      clear hq8 ch8
      go_wp2_with fail
      go_ret
      refine ⟨_, rfl, .inr ⟨rfl, v, B, Fu, rfl, by rw [HN.out.2]; exact h16, by simpa using HE.out.1, HF7.out.1, ?_⟩⟩
      refine ((Chg.of_below (foot q (A ++ nd :: v :: B)) HQ.out.2.1).trans HF7.out.2 fun k hk _ => ?_).trans HE.out.2 fun k hk _ => ?_
      · rcases hk with hk | hk
        · exact .inr ⟨v, HQ.out.2.2.2, .inr hk⟩
        · exact .inr ⟨nd, HQ.out.2.2.1, .inr hk⟩
      · rcases hk with hk | ⟨u, hu, hk⟩
        · exact .inl hk
        · simp only [List.mem_append, List.mem_cons, List.not_mem_nil, or_false] at hu
          rcases hu with (hu | rfl) | hu
          · exact .inr ⟨u, by simp [hu], .inl hk⟩
          · exact .inr ⟨nd, HQ.out.2.2.1, .inl hk⟩
          · exact .inr ⟨u, by simp [hu], .inl hk⟩
    · have hd : decide ((16 : Int) < (n1 : Int) + (n2 : Int)) = true := decide_eq_true (by omega)
      clear hF hx hvx hx2 hvx2 h hv kF hg hb0 hN hl ha HPr hn1 hn2 iu iv hbd
      go_enter Tryz.func173, Tryz.ntmps173
      go_wp2_with fail
      refine wp_region_text ⟨[14, 22], [], 26⟩ (fun w' => ∃ y : X1, w' = f y) (by kernel_rfl) (by kernel_rfl) H0.out ?_
      refine wpC_seg false (H0.out) 14 0 _ _ (by rfl) (by rfl) ?_
      simp only [List.take_succ_cons, List.take_zero, List.drop_succ_cons, List.drop_zero, Bool.false_eq_true, if_false, Nat.zero_add, Nat.reduceAdd]
      repeat (go_big_quiet_step (fail))
      refine wpQuiet_nil ?_
      refine wpC_loud (by rfl) (by rfl) fun K hK => ?_
      go_wp2_with fail
      refine HL1.out.mono ?_
      rintro e w5 ⟨rfl, rfl⟩
      refine hK _ _ (fun _ => H0.out) ?_
      clear hK
      refine wpC_seg false (H0.out) 7 15 _ _ (by rfl) (by rfl) ?_
      simp only [List.take_succ_cons, List.take_zero, List.drop_succ_cons, List.drop_zero, Bool.false_eq_true, if_false, Nat.zero_add, Nat.reduceAdd]
      repeat (go_big_quiet_step (fail))
      refine wpQuiet_nil ?_
      refine wpC_loud (by rfl) (by rfl) fun K hK => ?_
      go_wp2_with fail
      refine HL2.out.mono ?_
      rintro e w5 ⟨rfl, rfl⟩
      refine hK _ _ (fun _ => H0.out) ?_
      clear hK
      refine wpC_seg false (H0.out) 3 23 _ _ (by rfl) (by rfl) ?_
      simp only [List.take_succ_cons, List.take_zero, List.drop_succ_cons, List.drop_zero, Bool.false_eq_true, if_false, Nat.zero_add, Nat.reduceAdd]
      repeat (go_big_quiet_step (fail))
      refine wpQuiet_nil ?_
      refine wpC_nil ?_
      go_wp2_with fail
      go_ret
      exact ⟨_, rfl, .inl ⟨rfl, belowN (Below.refl _ _) 1⟩⟩
end Go.Proofs.YtlecnlnpgghmbaaGreatDoor

/- quick: what Delete keeps between its steps. -/
namespace Go.Proofs.YtlecnlnpgghmbaaGreatDoor
set_option linter.unusedVariables false
set_option linter.unusedSimpArgs false
open Go.RowKit
theorem ptrO_inj : ∀ {a b : Option Nat}, ptrO a = ptrO b → a = b
  | none, none, _ => rfl
  | some x, some y, h => by simp [ptrO] at h; rw [h]
  | none, some _, h => by simp [ptrO] at h
  | some _, none, h => by simp [ptrO] at h
theorem chain_len {w : World} : ∀ {l m : List Nd} {a a' : Option Nat}, Chain w a l none → Chain w a' m none → hdO l none = hdO m none → l.length = m.length
  | [], [], _, _, _, _, _ => rfl
  | u :: l, v :: m, a, a', h1, h2, h => by
    have hx : u.x = v.x := by simpa [hdO] using h
    have e := h1.1
    rw [hx, h2.1] at e
    have e2 := Option.some.inj e
    unfold nodeO at e2
    simp only [Obj.cells.injEq, Array.mk.injEq, List.cons.injEq, and_true] at e2
    have := chain_len h1.2 h2.2 (ptrO_inj e2.2.2.symm)
    simp [this]
  | [], _ :: _, _, _, _, _, h => by simp [hdO] at h
  | _ :: _, [], _, _, _, _, h => by simp [hdO] at h
theorem row_len {w : World} {q : Nat} {Ns Ms : List Nd} {n m : Int} (h1 : QRow w q Ns n) (h2 : QRow w q Ms m) : Ns.length = Ms.length := by
  refine chain_len h1.chain h2.chain (ptrO_inj ?_)
  have e := h1.head
  rw [h2.head] at e
  have e2 := Option.some.inj e
  unfold quickO at e2
  simp only [Obj.cells.injEq, Array.mk.injEq, List.cons.injEq, and_true] at e2
  exact e2.2.1.symm
open Classical in
/-- So many packs has the row. -/
noncomputable def lenQ (w : World) (q : Nat) : Nat := if h : ∃ k, ∃ Ns n, QRow w q Ns n ∧ Ns.length = k then h.choose else 0
theorem lenQ_eq {w : World} {q : Nat} {Ns : List Nd} {n : Int} (h : QRow w q Ns n) : lenQ w q = Ns.length := by
  have hex : ∃ k, ∃ Ns n, QRow w q Ns n ∧ Ns.length = k := ⟨_, Ns, n, h, rfl⟩
  unfold lenQ
  rw [dif_pos hex]
  obtain ⟨Ms, m, h2, e⟩ := hex.choose_spec
  rw [← e]
  exact row_len h2 h
theorem foot_set {w : World} {q : Nat} {A B : List Nd} {nd : Nd} {F' : Nat → Prop} {T' : List ByteArray} (hf : Fresh w nd.F F') : ∀ k, foot q (A ++ ⟨nd.x, nd.p, F', T'⟩ :: B) k → foot q (A ++ nd :: B) k ∨ w.heap.size ≤ k := by
  rintro k (hk | ⟨u, hu, hk⟩)
  · exact .inl (.inl hk)
  · simp only [List.mem_append, List.mem_cons] at hu
    rcases hu with hu | rfl | hu
    · exact .inl (.inr ⟨u, by simp [hu], hk⟩)
    · rcases hk with hk | hk
      · exact .inl (.inr ⟨nd, by simp, .inl hk⟩)
      · exact (hf k hk).imp (fun h => .inr ⟨nd, by simp, .inr h⟩) id
    · exact .inl (.inr ⟨u, by simp [hu], hk⟩)
theorem foot_sub {q : Nat} {A B : List Nd} {nd : Nd} : ∀ k, foot q (A ++ B) k → foot q (A ++ nd :: B) k := by
  rintro k (hk | ⟨u, hu, hk⟩)
  · exact .inl hk
  · exact .inr ⟨u, by simp only [List.mem_append, List.mem_cons] at hu ⊢; exact hu.imp id .inr, hk⟩
/-- Between two steps: the row tells G, its blocks are its own. -/
structure DoneI (w : World) (q : Nat) (Ns0 : List Nd) (G : List ByteArray) (N : Int) (Ns : List Nd) (W : World) : Prop where
  row : QRow W q Ns N
  good : Good Ns
  flat : flatN Ns = G
  ft : ∀ k, foot q Ns k → foot q Ns0 k ∨ w.heap.size ≤ k
  chg : Chg (foot q Ns0) w W
theorem DoneI.below {w : World} {q : Nat} {Ns0 Ns : List Nd} {G : List ByteArray} {N : Int} {W W' : World} (h : DoneI w q Ns0 G N Ns W) (hb : Below W.heap.size W W') : DoneI w q Ns0 G N Ns W' :=
  { h with row := h.row.below hb, chg := h.chg.trans (Chg.of_below (foot q Ns0) hb) fun _ hk _ => hk }
/-- Two packs have become one. -/
theorem DoneI.join {w : World} {q : Nat} {Ns0 A B : List Nd} {G : List ByteArray} {N : Int} {W W' : World} {nd v : Nd} {F' : Nat → Prop} (h : DoneI w q Ns0 G N (A ++ nd :: v :: B) W) (h16 : nd.T.length + v.T.length ≤ 16) (hq : QRow W' q (A ++ ⟨nd.x, nd.p, F', nd.T ++ v.T⟩ :: B) N) (hf : Fresh W nd.F F') (hc : Chg (foot q (A ++ nd :: v :: B)) W W') :
    DoneI w q Ns0 G N (A ++ ⟨nd.x, nd.p, F', nd.T ++ v.T⟩ :: B) W' where
  row := hq
  good := fun u hu => by
    simp only [List.mem_append, List.mem_cons] at hu
    rcases hu with hu | rfl | hu
    · exact h.good u (by simp [hu])
    · refine ⟨fun e => (h.good nd (by simp)).1 (List.append_eq_nil_iff.1 e).1, ?_⟩
      show (nd.T ++ v.T).length ≤ 32
      rw [List.length_append]; omega
    · exact h.good u (by simp [hu])
  flat := by rw [← h.flat, flat_append, flat_append, flat_cons, flat_cons, flat_cons, List.append_assoc]
  ft := fun k hk => by
    rcases foot_set (T' := nd.T ++ v.T) hf k hk with h1 | h1
    · refine h.ft k ?_
      rcases h1 with h1 | ⟨u, hu, h1⟩
      · exact .inl h1
      · refine .inr ⟨u, ?_, h1⟩
        simp only [List.mem_append, List.mem_cons] at hu ⊢
        rcases hu with hu | hu | hu
        · exact .inl hu
        · exact .inr (.inl hu)
        · exact .inr (.inr (.inr hu))
    · exact .inr (Nat.le_trans h.chg.size h1)
  chg := h.chg.trans hc fun k hk hlt => by
    rcases h.ft k hk with h1 | h1
    · exact h1
    · omega
/-- The cut has come so far: from place i of node nd on, r more go. -/
structure DelI (w : World) (q : Nat) (Ns0 : List Nd) (G : List ByteArray) (N : Int) (A : List Nd) (nd : Nd) (B : List Nd) (i r : Nat) (W : World) : Prop where
  row : QRow W q (A ++ nd :: B) N
  good : Good (A ++ nd :: B)
  ilt : i < nd.T.length
  rpos : 1 ≤ r
  rle : r ≤ (nd.T.length - i) + (flatN B).length
  flat : flatN A ++ nd.T.take i ++ (nd.T.drop i ++ flatN B).drop r = G
  ft : ∀ k, foot q (A ++ nd :: B) k → foot q Ns0 k ∨ w.heap.size ≤ k
  chg : Chg (foot q Ns0) w W
section
variable {w W W' : World} {q : Nat} {Ns0 A B : List Nd} {nd : Nd} {G : List ByteArray} {N : Int} {i r k : Nat} {F' : Nat → Prop}
/-- One pack is cut. -/
theorem DelI.cut (h : DelI w q Ns0 G N A nd B i r W) (hc : Chg nd.F W W') (hp : PackF W' nd.p F' (nd.T.take i ++ nd.T.drop (i + k))) (hf : Fresh W nd.F F') :
    QRow W' q (A ++ ⟨nd.x, nd.p, F', nd.T.take i ++ nd.T.drop (i + k)⟩ :: B) N ∧ (∀ j, foot q (A ++ ⟨nd.x, nd.p, F', nd.T.take i ++ nd.T.drop (i + k)⟩ :: B) j → foot q Ns0 j ∨ w.heap.size ≤ j) ∧ Chg (foot q Ns0) w W' := by
  refine ⟨h.row.setPack hc hp hf, fun j hj => ?_, h.chg.trans hc fun j hj hlt => ?_⟩
  · rcases foot_set hf j hj with h1 | h1
    · exact h.ft j h1
    · exact .inr (Nat.le_trans h.chg.size h1)
  · rcases h.ft j (.inr ⟨nd, by simp, .inr hj⟩) with h1 | h1
    · exact h1
    · omega
theorem good_set {T' : List ByteArray} (hg : Good (A ++ nd :: B)) (h1 : T' ≠ []) (h2 : T'.length ≤ 32) {x p : Nat} : Good (A ++ ⟨x, p, F', T'⟩ :: B) := fun u hu => by
  simp only [List.mem_append, List.mem_cons] at hu
  rcases hu with hu | rfl | hu
  · exact hg u (by simp [hu])
  · exact ⟨h1, h2⟩
  · exact hg u (by simp [hu])
theorem good_del (hg : Good (A ++ nd :: B)) : Good (A ++ B) := fun u hu => by
  refine hg u ?_
  simp only [List.mem_append, List.mem_cons] at hu ⊢
  exact hu.imp id .inr
/-- Nothing more goes; something of the pack is left. -/
theorem DelI.last (h : DelI w q Ns0 G N A nd B i r W) (hr : r ≤ nd.T.length - i) (hc : Chg nd.F W W') (hp : PackF W' nd.p F' (nd.T.take i ++ nd.T.drop (i + r))) (hf : Fresh W nd.F F') (hne : nd.T.length - r ≠ 0) :
    DoneI w q Ns0 G N (A ++ ⟨nd.x, nd.p, F', nd.T.take i ++ nd.T.drop (i + r)⟩ :: B) W' := by
  obtain ⟨c1, c2, c3⟩ := h.cut hc hp hf
  have hi := h.ilt
  have hg := h.good nd (by simp)
  refine ⟨c1, good_set h.good (fun e => ?_) ?_, ?_, c2, c3⟩
  · have := congrArg List.length e
    simp only [List.length_append, List.length_take, List.length_drop, List.length_nil] at this
    omega
  · simp only [List.length_append, List.length_take, List.length_drop]; omega
  · rw [← h.flat, flat_append, flat_cons, List.drop_append_of_le_length (by rw [List.length_drop]; omega), List.drop_drop]
    simp [List.append_assoc]
/-- Nothing more goes; the pack is empty, and goes. -/
theorem DelI.lastGone (h : DelI w q Ns0 G N A nd B i r W) (hr : r ≤ nd.T.length - i) (h0 : nd.T.length - r = 0) {W2 : World} (hc : Chg nd.F W W') (hp : PackF W' nd.p F' (nd.T.take i ++ nd.T.drop (i + r))) (hf : Fresh W nd.F F') (hq : QRow W2 q (A ++ B) N) (hc2 : Chg (fun k => k = q ∨ ∃ u ∈ A ++ B, k = u.x) W' W2) :
    DoneI w q Ns0 G N (A ++ B) W2 := by
  obtain ⟨c1, c2, c3⟩ := h.cut hc hp hf
  have hi := h.ilt
  have hf2 : ∀ j, foot q (A ++ B) j → foot q Ns0 j ∨ w.heap.size ≤ j := fun j hj => h.ft j (foot_sub j hj)
  refine ⟨hq, good_del h.good, ?_, hf2, c3.trans hc2 fun j hj hlt => ?_⟩
  · rw [← h.flat, flat_append, show i = 0 by omega, List.take_zero, List.append_nil, List.drop_zero, List.drop_append, List.drop_eq_nil_of_le (by omega), show r - nd.T.length = 0 by omega]
    simp
  · have hj' : foot q (A ++ B) j := hj.imp id fun ⟨u, hu, e⟩ => ⟨u, hu, .inl e⟩
    rcases hf2 j hj' with h1 | h1
    · exact h1
    · omega
theorem flat_step {T X Y : List ByteArray} {i r : Nat} (hi : i ≤ T.length) (hr : T.length - i ≤ r) : X ++ T.take i ++ (T.drop i ++ Y).drop r = X ++ T.take i ++ Y.drop (r - (T.length - i)) := by
  rw [List.drop_append, List.drop_eq_nil_of_le (by rw [List.length_drop]; omega), List.nil_append, List.length_drop]
/-- More goes; something of the pack is left. -/
theorem DelI.next {v : Nd} {B' : List Nd} (h : DelI w q Ns0 G N A nd (v :: B') i r W) (hr : nd.T.length - i < r) (hc : Chg nd.F W W') (hp : PackF W' nd.p F' (nd.T.take i ++ nd.T.drop (i + (nd.T.length - i)))) (hf : Fresh W nd.F F') (hne : i ≠ 0) :
    DelI w q Ns0 G N (A ++ [⟨nd.x, nd.p, F', nd.T.take i ++ nd.T.drop (i + (nd.T.length - i))⟩]) v B' 0 (r - (nd.T.length - i)) W' := by
  obtain ⟨c1, c2, c3⟩ := h.cut hc hp hf
  have hi := h.ilt
  have hrl := h.rle
  have hg := h.good nd (by simp)
  have hv := h.good v (by simp)
  have hvl : 0 < v.T.length := List.length_pos_iff.2 hv.1
  rw [flat_cons, List.length_append] at hrl
  have hgood : Good (A ++ ⟨nd.x, nd.p, F', nd.T.take i ++ nd.T.drop (i + (nd.T.length - i))⟩ :: v :: B') := good_set h.good (fun e => by
    have := congrArg List.length e
    simp only [List.length_append, List.length_take, List.length_drop, List.length_nil] at this
    omega) (by simp only [List.length_append, List.length_take, List.length_drop]; omega)
  refine ⟨by simpa using c1, by simpa using hgood, hvl, by omega, by omega, ?_, by simpa using c2, c3⟩
  have e := flat_step (T := nd.T) (X := flatN A) (Y := flatN (v :: B')) (i := i) (r := r) (by omega) (by omega)
  rw [← h.flat, e, flat_cons v B', flat_append, flat_cons, flat_nil, List.append_nil, List.take_zero, List.append_nil, List.drop_zero, List.drop_eq_nil_of_le (show nd.T.length ≤ i + (nd.T.length - i) by omega), List.append_nil]
/-- More goes; the pack is empty, and goes. -/
theorem DelI.nextGone {v : Nd} {B' : List Nd} (h : DelI w q Ns0 G N A nd (v :: B') i r W) (hr : nd.T.length - i < r) (h0 : i = 0) {W2 : World} (hc : Chg nd.F W W') (hp : PackF W' nd.p F' (nd.T.take i ++ nd.T.drop (i + (nd.T.length - i)))) (hf : Fresh W nd.F F') (hq : QRow W2 q (A ++ v :: B') N) (hc2 : Chg (fun k => k = q ∨ ∃ u ∈ A ++ v :: B', k = u.x) W' W2) :
    DelI w q Ns0 G N A v B' 0 (r - (nd.T.length - i)) W2 := by
  obtain ⟨c1, c2, c3⟩ := h.cut hc hp hf
  have hrl := h.rle
  have hv := h.good v (by simp)
  have hvl : 0 < v.T.length := List.length_pos_iff.2 hv.1
  rw [flat_cons, List.length_append] at hrl
  have hf2 : ∀ j, foot q (A ++ v :: B') j → foot q Ns0 j ∨ w.heap.size ≤ j := fun j hj => h.ft j (foot_sub j hj)
  refine ⟨hq, good_del h.good, hvl, by omega, by omega, ?_, hf2, c3.trans hc2 fun j hj hlt => ?_⟩
  · have e := flat_step (T := nd.T) (X := flatN A) (Y := flatN (v :: B')) (i := i) (r := r) (by have := h.ilt; omega) (by omega)
    rw [← h.flat, e, flat_cons v B', h0]
    simp
  · have hj' : foot q (A ++ v :: B') j := hj.imp id fun ⟨u, hu, e⟩ => ⟨u, hu, .inl e⟩
    rcases hf2 j hj' with h1 | h1
    · exact h1
    · omega
end
end Go.Proofs.YtlecnlnpgghmbaaGreatDoor
