/- The walks of the layer ints, part 6: Remove. -/
import Derived.Test.YtncdckakcmoejaaInts5
namespace Go.Proofs.Ytncdckakcmoejaa
set_option linter.unusedVariables false
set_option linter.unusedSimpArgs false
open Go.RowKit
/-- A number taken away at its place. -/
def delAt (L : List Int) (r : Nat) : List Int := L.take r ++ L.drop (r + 1)
theorem delAt_length (L : List Int) (r : Nat) (h : r < L.length) : (delAt L r).length + 1 = L.length := by
  simp [delAt]; omega
theorem del_bytes (L : List Int) (W r : Nat) (h : r < L.length) : (intsBytes (delAt L r) W).map u8v = hd8 W (L.length - 1) ++ (fl W (L.take r) ++ fl W (L.drop (r + 1))) := by
  have hl := delAt_length L r h
  rw [ints_split _ W (delAt L r).length, List.take_of_length_le (Nat.le_refl _), List.drop_eq_nil_of_le (Nat.le_refl _)]
  rw [show fl W [] = [] from rfl, List.append_nil, show (delAt L r).length = L.length - 1 by omega, delAt, fl_append]
/-- What Remove does. -/
def Removed (w : World) (p g : Nat) (L : List Int) (W : Nat) (x : Int) (e : Ending) (w' : World) : Prop :=
  e = .returned (.bool (decide (x ∈ L))) ∧ ∃ L' cap' cur', IntsRow w' p g cap' cur' L' W ∧ (x ∉ L → L' = L) ∧ (x ∈ L → ∃ r, PlaceOf L x r ∧ r < L.length ∧ L.getD r 0 = x ∧ L' = delAt L r) ∧
    Chg (fun b => b = p ∨ b = g) w w'
set_option maxHeartbeats 3200000 in
set_option maxRecDepth 100000 in
theorem remove_row {w : World} {p g cap : Nat} {cur : Array Value} {L : List Int} {W : Nat} (h : IntsRow w p g cap cur L W) (hL : L.Pairwise (· < ·)) (x : Int) :
    Calls Try.prog 37 #[.pointer (some ⟨p, 0, none⟩), .int .i64 x] w (Removed w p g L W x) := by
  have HLn := Lib.hid (len_row h)
  have HS := Lib.hid (seek_row h hL (x := x))
  have HH := Lib.hid h
  have HL := Lib.hid hL
  by_cases h0 : L.length = 0
  · have hx : x ∉ L := by simp [List.eq_nil_of_length_eq_zero h0]
    have HX := Lib.hid hx
    have hb : ((L.length : Int) == 0) = true := by simp [h0]
    clear h0 h hL hx
    go_enter Try.func37, Try.ntmps37
    go_wp2_with fail
    refine HLn.out.mono ?_
    rintro e w' ⟨rfl, rfl⟩
    go_wp2_with fail
    go_ret
    exact ⟨ret1 (by simp [HX.out]), L, cap, cur, HH.out, fun _ => rfl, fun h => absurd h HX.out, Chg.refl _ _⟩
  · have hb : ((L.length : Int) == 0) = false := by simpa using fun h => h0 (by simp [h])
    by_cases hx : x ∈ L
    · have hmem : decide (x ∈ L) = true := by simpa using hx
      have HX := Lib.hid hx
      clear h0 h hL hx
      go_enter Try.func37, Try.ntmps37
      go_wp2_with fail
      refine HLn.out.mono ?_
      rintro e w' ⟨rfl, rfl⟩
      go_wp2_with fail
      refine HS.out.mono ?_
      rintro e w2 ⟨r, hr, rfl, hbl⟩
      have h2 := HH.out.chg (Chg.of_below (fun _ => False) hbl) id id
      have KC2 := Lib.hid (Chg.of_below (fun b => b = p ∨ b = g) hbl)
      have hat := (place_mem hr HL.out).1 HX.out
      have HR := Lib.hid hr
      have HA := Lib.hid hat
      obtain ⟨hrl, hrx⟩ := hat
      have HCt := Lib.hid (count_row h2 (-1) (L.length - 1) (by omega) (by omega))
      have H2 := Lib.hid h2
      clear hr hbl HS h2 hrx
      go_wp2_with fail
      refine HCt.out.mono ?_
      rintro e w3 ⟨rfl, k3, hw3⟩
      have h2 := H2.out
      have hne := h2.ne
      have d3 := (setRow_other (w2.drewN k3) g p (wrs cur 4 ((leN 4 (L.length - 1)).map u8v)) (Ne.symm hne)).trans h2.head
      have r3 := (h2.row.drewN k3).setRow (cs := wrs cur 4 ((leN 4 (L.length - 1)).map u8v)) (by simp)
      rw [← hw3] at d3 r3
      have KC3 := Lib.hid (KC2.out.trans (show Chg (fun b => b = g) w2 w3 by rw [hw3]; exact (Chg.drewN _ _ _).trans (Chg.setRow (fun b => b = g) _ _ _ rfl) fun _ h _ => h) fun b h _ => .inr h)
      obtain ⟨R, hR⟩ := row_take h2.bytes
      rw [ints_split L W r, List.append_assoc] at hR
      have t3 := count_bytes (m := L.length - 1) hR
      have z3 : (wrs cur 4 ((leN 4 (L.length - 1)).map u8v)).size = cap := by rw [wrs_size]; exact h2.size
      generalize wrs cur 4 ((leN 4 (L.length - 1)).map u8v) = curA at *
      have c03 := cell_in d3 (i := 0) rfl
      have c23 := cell_in d3 (i := 2) rfl
      have f03 := frozen_in d3 0
      have hW := h2.width
      have few := h2.few
      have hle := h2.le
      have hcm := h2.capm
      obtain ⟨q, hq⟩ : ∃ q, q = r * W := ⟨_, rfl⟩
      have e1 : (r : Int) * (W : Int) = (q : Int) := by rw [hq]; push_cast; rfl
      have hqm : q + (W + (L.length - (r + 1)) * W) = L.length * W := by
        have h1 : L.length * W = (r + 1 + (L.length - (r + 1))) * W := by congr 1; omega
        rw [hq, h1, Nat.add_mul, Nat.succ_mul]; omega
      have hlb : L.length * W ≤ 800000000 := by rcases hW with h | h | h <;> rw [h] <;> omega
      have hA : (fl W (L.take r)).length = q := by rw [fl_length, List.length_take, Nat.min_eq_left (by omega), hq]
      obtain ⟨c, hc⟩ : ∃ c, c = (L.length - (r + 1)) * W := ⟨_, rfl⟩
      rw [← hc] at hqm
      have hC : (fl W (L.drop (r + 1))).length = c := by rw [fl_length, List.length_drop, hc]
      have hE : fl W (L.drop r) = (encW W L[r]).map u8v ++ fl W (L.drop (r + 1)) := by
        rw [List.drop_eq_getElem_cons hrl, show L[r] :: L.drop (r + 1) = [L[r]] ++ L.drop (r + 1) from rfl, fl_append, fl_one]
      have hEl : ((encW W L[r]).map u8v).length = W := by simp
      obtain ⟨X, Y, hXY, hX, hY⟩ := split_len ((encW W L[r]).map u8v ++ fl W (L.drop (r + 1))) c W (by rw [List.length_append, hC, hEl]; omega)
      have hcurA : curA.toList = (hd8 W (L.length - 1) ++ fl W (L.take r)) ++ (X ++ (Y ++ R)) := by
        rw [t3, hE, hXY]; simp only [List.append_assoc]
      have hcurA' : curA.toList = (hd8 W (L.length - 1) ++ fl W (L.take r) ++ (encW W L[r]).map u8v) ++ (fl W (L.drop (r + 1)) ++ R) := by
        rw [t3, hE]; simp only [List.append_assoc]
      obtain ⟨cur6, hcur6⟩ : ∃ cur6, cur6 = spliced curA (8 + q) (fl W (L.drop (r + 1))) := ⟨_, rfl⟩
      have t6 : cur6.toList = (intsBytes (delAt L r) W).map u8v ++ (Y ++ R) := by
        rw [hcur6, row_splice hcurA (by rw [hC, hX]) (by simp only [List.length_append, hd8_length, hA]), del_bytes L W r hrl]
        simp only [List.append_assoc]
      have z6 : cur6.size = cap := by rw [hcur6, spliced_size _ _ _ (by rw [hC]; omega)]; exact z3
      have hone : ∀ u ∈ fl W (L.drop (r + 1)), u.oneCell' = true := fun u hu => by
        obtain ⟨c, _, rfl⟩ := List.mem_map.1 hu
        rfl
      obtain ⟨i0, hi, hz0, hz1, hz2⟩ := info_parts info_u8
      have hcpy : ∀ k, (Builtin.copy_ #[44, 44] 3 #[.slice (some ⟨g, 8 + q, none⟩) (8 + L.length * W - (8 + q)) (cap - (8 + q)), .slice (if cap = 8 + q + W then some ⟨g, 0, none⟩ else some ⟨g, 8 + q + W, none⟩) (8 + L.length * W - (8 + q + W)) (cap - (8 + q + W))]).run Try.prog (w3.drewN k) =
          .ok (.int .i64 ((c : Nat) : Int)) ((w3.drewN k).setRow g cur6) := fun k => by
        rw [hcur6]
        split
        · have hc0 : fl W (L.drop (r + 1)) = [] := List.eq_nil_of_length_eq_zero (by rw [hC]; omega)
          rw [hc0]
          exact run_copy_row (w3.drewN k) _ _ _ _ i0 Try.underlying44 hi hz1 g (8 + q) _ _ curA r3 ⟨g, 0, none⟩ _ _ c (by omega) (by omega) [] (by simp; omega) (by simp) (by simp)
        · exact run_copy_row (w3.drewN k) _ _ _ _ i0 Try.underlying44 hi hz1 g (8 + q) _ _ curA r3 ⟨g, 8 + q + W, none⟩ _ _ c (by omega) (by omega) _ hC
            (row_cells (r3.drewN k) hcurA' (by simp only [List.length_append, hd8_length, hA, hEl])) hone
      have hdl := delAt_length L r hrl
      have hn7 : 8 + q + c = 8 + (delAt L r).length * W := by
        have h1 : L.length * W = ((delAt L r).length + 1) * W := by rw [hdl]
        rw [Nat.succ_mul] at h1
        omega
      obtain ⟨w5, hw5⟩ : ∃ w5, w5 = ((w3.drewN 1).setRow g cur6).setCell ⟨p, 0, none⟩ (.slice (some ⟨g, 0, none⟩) (8 + q + c) cap) := ⟨_, rfl⟩
      have d4 := (setRow_other (w3.drewN 1) g p cur6 (Ne.symm hne)).trans d3
      have r4 := (r3.drewN 1).setRow (cs := cur6) (by rw [z6, z3])
      have e5 := setCell_eq_setRow _ p 0 _ _ _ (.slice (some ⟨g, 0, none⟩) (8 + q + c) cap) d4
      rw [← hw5] at e5
      have hfin : IntsRow w5 p g cap cur6 (delAt L r) W := by
        refine ⟨?_, ?_, hne, z6, by omega, hcm, ?_, hW, fun y hy => h2.fits y ?_, by omega⟩
        · rw [e5, heap_setRow d4, hn7]; rfl
        · rw [e5]; exact r4.other _ hne
        · rw [t6, List.take_left' (by rw [List.length_map, intsBytes_length])]
        · unfold delAt at hy
          rcases List.mem_append.1 hy with h | h
          · exact List.mem_of_mem_take h
          · exact List.mem_of_mem_drop h
      have hchg : Chg (fun b => b = p ∨ b = g) w w5 := by
        rw [e5]
        exact ((KC3.out.trans (Chg.drewN (fun _ => False) _ _) fun _ h _ => h.elim).trans (Chg.setRow (fun b => b = g) _ _ _ rfl) fun _ h _ => .inr h).trans (Chg.setRow (fun b => b = p) _ _ _ rfl) fun _ h _ => .inl h
      have HFin := Lib.hid hfin
      have HChg := Lib.hid hchg
      have HW5 := Lib.hid hw5
      have HCp := Lib.hid hcpy
      have c4 := cell_in d4 (i := 0) rfl
      have c42 := cell_in d4 (i := 2) rfl
      have f4 := frozen_in d4 0
      have H3W := Lib.hid hw3
      have hcb : 8 + q + c ≤ cap := by omega
      have hqW : 8 + q + W ≤ 8 + L.length * W := by omega
      have hW0 : 0 < W ∧ W ≤ 8 := by omega
      have hqn : ¬ (cap = 8 + q) := by omega
      unfold maxLen at hcm
      clear hfin hchg hw5 hcpy hw3 hn7 hdl hone z6 t6 hcur6 hcurA hcurA' hXY hX hY hEl hE hC hc hA hqm hq t3 hR z3 R r3 d3 d4 r4 e5 hi hz0 hz1 hz2 h2 hne hW f03 HCt
      go_wp2_with fail
      obtain ⟨X1, f, hX1, hf, hF⟩ := classOf (fun w => w.cell? ⟨p, 0, none⟩ = some (.slice (some ⟨g, 0, none⟩) (8 + L.length * W) cap) ∧ w.cell? ⟨p, 2, none⟩ = some (.int .i64 W)) ⟨c03, c23⟩
      have hf1 := fun x => (hf x).1
      have hf2 := fun x => (hf x).2
      have HF1 := Lib.hid (hF (w3.drewN 1) ⟨c03, c23⟩)
      have HF2 := Lib.hid (hF ((w3.drewN 1).setRow g cur6) ⟨c4, c42⟩)
      clear hF hf
      refine wp_region_text ⟨[23, 28], [], 28⟩ (fun w' => ∃ x : X1, w' = f x) (by kernel_rfl) (by kernel_rfl) HF1.out ?_
      refine wpC_seg false (HF1.out) 23 0 _ _ (by rfl) (by rfl) ?_
      simp only [List.take_succ_cons, List.take_zero, List.drop_succ_cons, List.drop_zero, Bool.false_eq_true, if_false, Nat.zero_add, Nat.reduceAdd]
      repeat (go_big_quiet_step (fail))
      refine wpQuiet_nil ?_
      refine wpC_value (by rfl) (by rfl) (exec_copy rfl (HCp.out 1)) (fun _ => HF2.out) ?_
      generalize (if cap = 8 + q + W then some (⟨g, 0, none⟩ : Addr) else some ⟨g, 8 + q + W, none⟩) = adr
      simp only [Act.put, List.setIfInBounds_toArray, List.set_cons_succ, List.set_cons_zero]
      refine wpC_seg false (HF2.out) 4 24 _ _ (by rfl) (by rfl) ?_
      simp only [List.take_succ_cons, List.take_zero, List.drop_succ_cons, List.drop_zero, Bool.false_eq_true, if_false, Nat.zero_add, Nat.reduceAdd]
      repeat (go_big_quiet_step (fail))
      refine wpQuiet_nil ?_
      refine wpC_loud (by rfl) (by rfl) fun K hK => ?_
      go_wp2_with fail
      rw [← HW5.out]
      refine hK _ _ (fun h => absurd h (by decide)) ?_
      refine wpC_nil ?_
      clear hK hf1 hf2 hX1 HF1 HF2 f
      go_wp2_with fail
      go_ret
      exact ⟨ret1 (by simp [HX.out]), delAt L r, cap, cur6, HFin.out, fun h => absurd HX.out h, fun _ => ⟨r, HR.out, HA.out.1, HA.out.2, rfl⟩, HChg.out⟩
    · have hmem : decide (x ∈ L) = false := by simpa using hx
      have HX := Lib.hid hx
      clear h0 h hL hx
      go_enter Try.func37, Try.ntmps37
      go_wp2_with fail
      refine HLn.out.mono ?_
      rintro e w' ⟨rfl, rfl⟩
      go_wp2_with fail
      refine HS.out.mono ?_
      rintro e w2 ⟨r, hr, rfl, hbl⟩
      have HB := Lib.hid hbl
      clear hbl hr
      go_wp2_with fail
      go_ret
      exact ⟨ret1 (by simp [HX.out]), L, cap, cur, HH.out.chg (Chg.of_below (fun _ => False) HB.out) id id, fun _ => rfl, fun h => absurd h HX.out, Chg.of_below _ HB.out⟩
end Go.Proofs.Ytncdckakcmoejaa
