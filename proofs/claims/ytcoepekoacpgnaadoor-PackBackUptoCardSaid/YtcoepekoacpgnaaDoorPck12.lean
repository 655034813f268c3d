/- pack.change. -/
import Derived.Test.YtcoepekoacpgnaaDoorPck11
namespace Go.Proofs.YtcoepekoacpgnaaDoor
set_option linter.unusedVariables false
set_option linter.unusedSimpArgs false
open Go.RowKit
theorem sizeP_cut {L M : List ByteArray} {i j : Nat} (hij : i ≤ j) (hj : j ≤ L.length) : sizeP (L.take i ++ M ++ L.drop j) + offL L j = offL L i + (bodyL M).length + sizeP L := by
  have h1 : bodyL L = bodyL (L.take j) ++ bodyL (L.drop j) := by rw [← bodyL_append, List.take_append_drop]
  unfold sizeP offL
  rw [bodyL_append, bodyL_append, h1]
  simp only [List.length_append]
  omega
theorem packL_cut {L M : List ByteArray} {i j : Nat} : packL (L.take i ++ M ++ L.drop j) = leN 4 (sizeP (L.take i ++ M ++ L.drop j)) ++ (leN 4 (L.take i ++ M ++ L.drop j).length ++ (bodyL (L.take i) ++ (bodyL M ++ (bodyL (L.drop j) ++ [255])))) := by
  unfold packL
  rw [bodyL_append, bodyL_append]
  simp only [List.append_assoc]
set_option maxHeartbeats 3200000 in
set_option maxRecDepth 100000 in
theorem change_row {w : World} {p g cap : Nat} {cur : Array Value} {L : List ByteArray} (h : PackRow w p g cap cur L) (i j : Nat) (hij : i ≤ j) (hjl : j ≤ L.length) (M : List ByteArray) (ok : OKL (L.take i ++ M ++ L.drop j)) (ea : Option Addr) (ne ec : Nat) (hec : ne ≤ ec) (hne : (bodyL M).length = ne)
    (hes : ne = 0 ∨ ∃ b q, ea = some ⟨b, q, none⟩ ∧ ∀ i (hi : i < (bodyL M).length), w.cell? ⟨b, q + i, none⟩ = some (.int .u8 (bodyL M)[i].toNat)) (more : Int) (hmore : (L.length : Int) + more = ((L.take i ++ M ++ L.drop j).length : Nat)) :
    Calls Tryd.prog 48 #[.pointer (some ⟨p, 0, none⟩), .int .i64 (offL L i), .int .i64 (offL L j), .slice ea ne ec, .int .i64 more] w fun e w' => e = .returned (.tuple #[]) ∧ (∃ cap' cur', PackRow w' p w.heap.size cap' cur' (L.take i ++ M ++ L.drop j)) ∧ Chg (fun k => k = p) w w' := by
  obtain ⟨i0, q1, q2, q3, q4⟩ := info_parts info_u8
  have hcutN := sizeP_cut (M := M) hij hjl
  rw [hne] at hcutN
  have hcutL := packL_cut (L := L) (M := M) (i := i) (j := j)
  have h9 := offL_lt L i
  have h9j := offL_lt L j
  have hmono := offL_mono (L := L) hij
  have htk := packL_take L i
  have hdr := packL_drop L j
  have hdl := drop_length L j
  have hln := packL_length L
  have c0 := h.cell0
  have hpl := heap_lt h.head
  have hgl := h.row.lt
  have hne1 := h.ne
  have hle := h.le
  have hsz := h.ok.size
  have hcm := h.capm
  have hmany := h.ok.many
  have hLen := plen_row h
  obtain ⟨L', hL'⟩ : ∃ L', L.take i ++ M ++ L.drop j = L' := ⟨_, rfl⟩
  rw [hL'] at ok hmore hcutN hcutL ⊢
  have okz := ok.size
  have okm := ok.many
  obtain ⟨z, hz⟩ : ∃ z, sizeP L' = z := ⟨_, rfl⟩
  obtain ⟨n', hn'⟩ : ∃ n', L'.length = n' := ⟨_, rfl⟩
  obtain ⟨f, hf⟩ : ∃ f, offL L i = f := ⟨_, rfl⟩
  obtain ⟨t, ht⟩ : ∃ t, offL L j = t := ⟨_, rfl⟩
  obtain ⟨sz, hsz'⟩ : ∃ sz, sizeP L = sz := ⟨_, rfl⟩
  obtain ⟨B, hB⟩ : ∃ B, bodyL (L.take i) = B := ⟨_, rfl⟩
  obtain ⟨E, hE⟩ : ∃ E, bodyL M = E := ⟨_, rfl⟩
  obtain ⟨D, hD⟩ : ∃ D, bodyL (L.drop j) ++ [255] = D := ⟨_, rfl⟩
  rw [hf] at h9 hmono htk hcutN
  rw [ht] at h9j hmono hdr hdl hcutN
  rw [hz] at okz hcutN hcutL
  rw [hn'] at okm hmore hcutL
  rw [hsz'] at h9 h9j htk hdl hln c0 hle hsz hcutN
  rw [hE] at hne hes
  rw [hB, hE, hD] at hcutL
  rw [hB] at htk
  rw [hD] at hdr
  rw [hf, ht]
  obtain ⟨G, hG⟩ : ∃ G, w.heap.size = G := ⟨_, rfl⟩
  have hDl : D.length = sz - t := by rw [← hdr, hdl]
  have hAl : (leN 4 sz ++ (leN 4 L.length ++ B)).length = f := by rw [← htk]; simp; omega
  obtain ⟨A, hA⟩ : ∃ A, leN 4 sz ++ (leN 4 L.length ++ B) = A := ⟨_, rfl⟩
  rw [hA] at htk hAl
  -- the new row
  obtain ⟨cs0, hcs0⟩ : ∃ cs0, cs0 = (List.replicate z (Value.int .u8 0)).toArray := ⟨_, rfl⟩
  have hmk : (Instr.makeSlice 67 (.int .i64 z) (.int .i64 z)).run Tryd.prog w = .ok (.slice (some ⟨w.heap.size, 0, none⟩) z z) (w.alloc (.cells cs0 5)) := by
    rw [hcs0]; exact run_make_row w _ _ i0 _ 1 Tryd.underlying67 q1 q2 q3 q4 rfl z (by unfold maxLen; omega) (by omega)
  have hzz : z = f + (ne + (sz - t)) := by omega
  have l0 : cs0.toList = List.replicate f (Value.int .u8 0) ++ (List.replicate ne (Value.int .u8 0) ++ List.replicate (sz - t) (Value.int .u8 0)) := by
    rw [hcs0, hzz]
    simp
  have z0 : cs0.size = z := by rw [hcs0]; simp
  obtain ⟨w1, hw1⟩ : ∃ w1, w1 = w.alloc (.cells cs0 5) := ⟨_, rfl⟩
  have r1 : RowAt w1 G 5 cs0 := by rw [hw1, ← hG]; exact .of (heap_new _ _)
  have c1 : Chg (fun k => k = G) w w1 := by rw [hw1]; exact Chg.alloc _ _ _
  have p1 := h.chg c1 (by omega) (by omega)
  -- what stands ahead
  obtain ⟨cs1, hcs1⟩ : ∃ cs1, cs1 = spliced cs0 0 (A.map u8v) := ⟨_, rfl⟩
  have hcp1 := copy_bytes (o := 0) (dl := z) (dc := z) r1 (some ⟨g, 0, none⟩) A f cap hAl (by omega) (by omega) (.inr ⟨g, 0, rfl, p1.cells 0 (by rw [List.drop_zero, hAl, htk])⟩)
  rw [← hcs1] at hcp1
  have l1 : cs1.toList = A.map u8v ++ (List.replicate ne (Value.int .u8 0) ++ List.replicate (sz - t) (Value.int .u8 0)) := by
    have := row_splice (a := []) (b := List.replicate f (Value.int .u8 0)) (c := List.replicate ne (Value.int .u8 0) ++ List.replicate (sz - t) (Value.int .u8 0)) (news := A.map u8v) (cur := cs0) l0 (by simp [hAl]) (o := 0) rfl
    rw [hcs1, this]; rfl
  have z1 : cs1.size = z := by rw [hcs1, spliced_size _ _ _ (by simp; omega), z0]
  obtain ⟨w2, hw2⟩ : ∃ w2, w2 = w1.setRow G cs1 := ⟨_, rfl⟩
  rw [← hw2] at hcp1
  have r2 : RowAt w2 G 5 cs1 := by rw [hw2]; exact r1.setRow (by omega)
  have c2 : Chg (fun k => k = G) w w2 := by rw [hw2]; exact c1.trans (Chg.setRow (fun k => k = G) _ _ _ rfl) fun _ h _ => h
  have p2 := h.chg c2 (by omega) (by omega)
  -- the bytes
  obtain ⟨cs2, hcs2⟩ : ∃ cs2, cs2 = spliced cs1 f (E.map u8v) := ⟨_, rfl⟩
  have hes2 : ne = 0 ∨ ∃ b q, ea = some ⟨b, q, none⟩ ∧ ∀ i (hi : i < E.length), w2.cell? ⟨b, q + i, none⟩ = some (.int .u8 E[i].toNat) := hes.imp id fun ⟨b, q, e, hc⟩ => ⟨b, q, e, fun i hi => by
    have := hc i hi
    have hlt := World.block_lt_of_cell? w _ this
    rw [← this]
    have hb : Below w.heap.size w w2 := belowChg (Below.refl _ _) c2 (Nat.le_refl _) fun k hk _ => by omega
    exact hb.cell hlt⟩
  have hcp2 := copy_bytes (o := f) (dl := z - f) (dc := z - f) r2 ea E ne ec hne (by omega) (by omega) hes2
  rw [← hcs2] at hcp2
  have l2 : cs2.toList = A.map u8v ++ (E.map u8v ++ List.replicate (sz - t) (Value.int .u8 0)) := by
    have := row_splice (b := List.replicate ne (Value.int .u8 0)) (news := E.map u8v) l1 (by simp [hne]) (o := f) (by simp [hAl])
    rw [hcs2, this]
  have z2 : cs2.size = z := by rw [hcs2, spliced_size _ _ _ (by simp; omega), z1]
  obtain ⟨w3, hw3⟩ : ∃ w3, w3 = w2.setRow G cs2 := ⟨_, rfl⟩
  rw [← hw3] at hcp2
  have r3 : RowAt w3 G 5 cs2 := by rw [hw3]; exact r2.setRow (by omega)
  have c3 : Chg (fun k => k = G) w w3 := by rw [hw3]; exact c2.trans (Chg.setRow (fun k => k = G) _ _ _ rfl) fun _ h _ => h
  have p3 := h.chg c3 (by omega) (by omega)
  -- what stands behind
  obtain ⟨cs3, hcs3⟩ : ∃ cs3, cs3 = spliced cs2 (f + ne) (D.map u8v) := ⟨_, rfl⟩
  have hcp3 := copy_bytes (w := w3.drewN 1) (o := f + ne) (dl := z - (f + ne)) (dc := z - (f + ne)) (r3.drewN 1) (some ⟨g, t, none⟩) D (sz - t) (cap - t) hDl (by omega) (by omega) (.inr ⟨g, t, rfl, (p3.chg (Chg.drewN (fun _ => False) w3 1) id id).cells t (by rw [hdr, List.take_length])⟩)
  rw [← hcs3] at hcp3
  have l3 : cs3.toList = A.map u8v ++ (E.map u8v ++ D.map u8v) := by
    have := row_splice (a := A.map u8v ++ E.map u8v) (b := List.replicate (sz - t) (Value.int .u8 0)) (c := []) (news := D.map u8v) (by rw [l2, List.append_nil, List.append_assoc]) (by simp [hDl]) (o := f + ne) (by simp [hAl, hne])
    rw [hcs3, this, List.append_nil, List.append_assoc]
  have z3 : cs3.size = z := by rw [hcs3, spliced_size _ _ _ (by simp; omega), z2]
  obtain ⟨w4, hw4⟩ : ∃ w4, w4 = (w3.drewN 1).setRow G cs3 := ⟨_, rfl⟩
  rw [← hw4] at hcp3
  have r4 : RowAt w4 G 5 cs3 := by rw [hw4]; exact (r3.drewN 1).setRow (by omega)
  have c4 : Chg (fun k => k = G) w w4 := by rw [hw4]; exact c3.trans ((Chg.drewN (fun k => k = G) w3 1).trans (Chg.setRow (fun k => k = G) _ _ _ rfl) fun _ h _ => h) fun _ h _ => h
  -- the head
  have hput1 := put_any G 0 4 z z cs3 5 w4 (by omega) (by omega) r4
  obtain ⟨cs5, hcs5⟩ : ∃ cs5, cs5 = wrs cs3 0 ((leN 4 z).map u8v) := ⟨_, rfl⟩
  rw [← hcs5] at hput1
  have l5 : cs5.toList = (leN 4 z).map u8v ++ ((leN 4 L.length).map u8v ++ (B.map u8v ++ (E.map u8v ++ D.map u8v))) := by
    rw [← hA] at l3
    have := row_wrs (a := []) (b := (leN 4 sz).map u8v) (c := (leN 4 L.length).map u8v ++ (B.map u8v ++ (E.map u8v ++ D.map u8v))) (b' := (leN 4 z).map u8v) (cur := cs3) (by rw [l3]; simp) (by simp) (o := 0) rfl
    rw [hcs5, this]; rfl
  have z5 : cs5.size = z := by rw [hcs5, wrs_size, z3]
  obtain ⟨w5, hw5⟩ : ∃ w5, w5 = w4.setRow G cs5 := ⟨_, rfl⟩
  have r5 : RowAt w5 G 5 cs5 := by rw [hw5]; exact r4.setRow (by omega)
  have c5 : Chg (fun k => k = G) w w5 := by rw [hw5]; exact c4.trans (Chg.setRow (fun k => k = G) _ _ _ rfl) fun _ h _ => h
  have hput2 := put_any G 4 4 (z - 4) n' cs5 5 w5 (by omega) (by omega) r5
  obtain ⟨cs6, hcs6⟩ : ∃ cs6, cs6 = wrs cs5 4 ((leN 4 n').map u8v) := ⟨_, rfl⟩
  rw [← hcs6] at hput2
  have l6 : cs6.toList = (packL L').map u8v := by
    have := row_wrs (a := (leN 4 z).map u8v) (b := (leN 4 L.length).map u8v) (c := B.map u8v ++ (E.map u8v ++ D.map u8v)) (b' := (leN 4 n').map u8v) (cur := cs5) l5 (by simp) (o := 4) (by simp)
    rw [hcs6, this, hcutL]; simp
  have z6 : cs6.size = z := by rw [hcs6, wrs_size, z5]
  obtain ⟨w6, hw6⟩ : ∃ w6, w6 = w5.setRow G cs6 := ⟨_, rfl⟩
  have r6 : RowAt w6 G 5 cs6 := by rw [hw6]; exact r5.setRow (by omega)
  have c6 : Chg (fun k => k = G) w w6 := by rw [hw6]; exact c5.trans (Chg.setRow (fun k => k = G) _ _ _ rfl) fun _ h _ => h
  have p6 := h.chg c6 (by omega) (by omega)
  obtain ⟨w7, hw7⟩ : ∃ w7, w7 = w6.setCell ⟨p, 0, none⟩ (.slice (some ⟨G, 0, none⟩) z z) := ⟨_, rfl⟩
  have hd7 : w7.heap[p]? = some (.cells #[.slice (some ⟨G, 0, none⟩) z z] 69 (0, 0)) := by rw [hw7]; exact setCell_head p6.head 0 _
  have c67 : Chg (fun k => k = p) w6 w7 := by rw [hw7]; exact Chg.setCell (fun k => k = p) _ _ _ rfl
  have r7 := r6.keep c67 (show ¬ G = p by omega)
  have HFin := Lib.hid (show (∃ cap' cur', PackRow w7 p G cap' cur' L') ∧ Chg (fun k => k = p) w w7 from
    ⟨⟨z, cs6, { head := by rw [hz]; exact hd7, row := r7, size := z6, le := by omega, capm := by unfold maxLen; omega, bytes := by rw [← l6, hz, List.take_of_length_le (by rw [Array.length_toList]; omega)], ok := ok }⟩,
      (c6.mono (S' := fun k => k = p) fun k hk hlt => by omega).trans c67 fun _ h _ => h⟩)
  have c01 := p1.cell0
  have c02 := p2.cell0
  have c03 := p3.cell0
  have c06 := p6.cell0
  have f06 := frozen_in p6.head 0
  rw [hsz'] at c01 c02 c03 c06
  have hszE : (sz : Int) - ((t : Int) - (f : Int)) + (ne : Int) = (z : Int) := by omega
  obtain ⟨X1, fx, hX1, hfx, hFx⟩ := classOf (fun x => x.cell? ⟨p, 0, none⟩ = some (.slice (some ⟨g, 0, none⟩) sz cap)) c03
  have HF1 := Lib.hid (hFx w3.drew c03)
  have HLen := Lib.hid hLen
  have HC1 := Lib.hid hcp1
  have HC2 := Lib.hid hcp2
  have HC3 := Lib.hid hcp3
  have HP1 := Lib.hid hput1
  have HP2 := Lib.hid hput2
  have HW1 := Lib.hid hw1
  have HW5 := Lib.hid hw5
  have HW6 := Lib.hid hw6
  have HW7 := Lib.hid hw7
  have HG := Lib.hid hG
  unfold maxLen at hcm
  have hb1 : f ≤ sz := by omega
  have hb2 : ¬ z = f := by omega
  have hb3 : ¬ z = f + ne := by omega
  have hb4 : ¬ cap = t := by omega
  have hb5 : f ≤ z := by omega
  have hb6 : f + ne ≤ z := by omega
  have hb7 : t ≤ sz := by omega
  have hb8 : 9 ≤ z := by omega
  have hb9 : ¬ z = 4 := by omega
  rw [hG] at hmk
  clear hFx h p1 p2 p3 p6 hLen hcp1 hcp2 hcp3 hput1 hput2 hw1 hw2 hw3 hw4 hw5 hw6 hw7 hd7 c67 r7 c1 c2 c3 c4 c5 c6 r1 r2 r3 r4 r5 r6 l0 l1 l2 l3 l5 l6 z0 z1 z2 z3 z5 z6 hcs0 hcs1 hcs2 hcs3 hcs5 hcs6 hzz hes hes2 hA htk hAl hDl hcutN hcutL ok hmany hdr hdl hln h9 h9j hmono q1 q2 q3 q4 hL' hz hn' hf ht hsz' hB hE hD hij hjl hne hne1 hpl hgl
  go_enter Tryd.func48, Tryd.ntmps48
  go_wp2_with fail
  refine HLen.out.mono ?_
  rintro e w' ⟨rfl, rfl⟩
  go_upto_region 3 with (fail)
  rw [← HW1.out]
  have hC1 := HC1.out
  have hC2 := HC2.out
  go_upto_region 5 with (fail)
  clear hC1 hC2 c0 c01 c02 c03 hmk hszE
  refine wp_region_text ⟨[12], [], 12⟩ (fun w' => ∃ x : X1, w' = fx x) (by kernel_rfl) (by kernel_rfl) HF1.out ?_
  refine wpC_seg false (HF1.out) 12 0 _ _ (by rfl) (by rfl) ?_
  simp only [List.take_succ_cons, List.take_zero, List.drop_succ_cons, List.drop_zero, Bool.false_eq_true, if_false, Nat.zero_add, Nat.reduceAdd]
  repeat (go_big_quiet_step (fail))
  refine wpQuiet_nil ?_
  refine wpC_value (by rfl) (by rfl) (exec_copy rfl HC3.out) (fun h => absurd h (by decide)) ?_
  refine wpC_nil ?_
  simp only [Act.put, List.setIfInBounds_toArray, List.set_cons_succ, List.set_cons_zero]
  clear hfx hX1 HF1 fx
  go_wp2_with fail
  refine HP1.out.mono ?_
  rintro e w' ⟨rfl, hw'⟩
  obtain rfl : w' = w5 := hw'.trans HW5.out.symm
  clear hw'
  go_wp2_with fail
  refine HP2.out.mono ?_
  rintro e w' ⟨rfl, hw'⟩
  obtain rfl : w' = w6 := hw'.trans HW6.out.symm
  clear hw'
  go_wp2_with fail
  rw [← HW7.out]
  go_end0
  exact ⟨rfl, by rw [HG.out]; exact HFin.out⟩
end Go.Proofs.YtcoepekoacpgnaaDoor
