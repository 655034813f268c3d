/- Lemmas and walks for StreamOwn, part 2 of 5: the texts Bkp3, Bkp5, Bkp6, Bkp7, Bke3, Bke5, Bke6, Bke7, Bkx1, Bkx2, Bkx3, Bkx5, Bkx6, Bkx4, Rad1, Rad2, Rad12, Sad3, Sad4, Sad5, Sad6, Sad7, Sad8, Sad9, Sad10, Sad11, Sad13, Sad14, Sad15, Sad16, Sad17, Sad18. -/
import Derived.Test.YtmaemgihhipllaaGreatDoorMStreamOwn1
/- The book: fillPair. -/
namespace Go.Proofs.YtmaemgihhipllaaGreatDoor
set_option linter.unusedVariables false
set_option linter.unusedSimpArgs false
open Go.RowKit
abbrev markP (m : Nat) : List Value := [.string (wordB m), .string ⟨#[]⟩]
set_option maxHeartbeats 3200000 in
set_option maxRecDepth 100000 in
theorem fillPair_any {w0 w : World} (hB : Base w0 w) {b : Nat} {tv : Value} {E : List Held} (h : Holds w b 4 106 68 2 tv E) (hE : ∀ k, blocksV E k → w0.heap.size ≤ k) (hg : ∀ h ∈ E, h.g = .slice none 0 0) :
    Calls Tryz.prog 25 #[bkp b] w fun e w' => (∃ v, e = .returned v) ∧ (∀ h ∈ E, SliceN w' 0 68 2 h.v h.n (rep h.n (markP h.m))) ∧ Chg (blocksV E) w w' := by
  obtain ⟨N, hN⟩ : ∃ N, N = E.length := ⟨_, rfl⟩
  obtain ⟨ta, tc, rfl, htc, _⟩ := h.row.form
  rw [← hN] at htc
  have hN6 : N ≤ 1000000 := by have := h.few; omega
  have HH := Lib.hid h
  have HB := Lib.hid hB
  have HE := Lib.hid hE
  have HG := Lib.hid hg
  have HN := Lib.hid hN
  obtain ⟨cs, hcs, hci⟩ := h.head
  rw [← hN] at hci
  have HCs := Lib.hid (And.intro hcs hci)
  have x0 := cell_in hcs hci
  clear h hB hE hg hN hcs hci
  go_enter Tryz.func25, Tryz.ntmps25
  go_wp2_with fail
  go_loopw [2] (fun i wr => ∃ k : Nat, k ≤ N ∧ i = .int .i64 k ∧ Hid ((∀ j (hj : j < E.length), (j < k → SliceN wr 0 68 2 E[j].v E[j].n (rep E[j].n (markP E[j].m))) ∧ ∃ xs, SliceN wr 0 68 2 E[j].v E[j].n xs) ∧ Chg (blocksV E) w wr)) (fun i _ => N - (intOf i).toNat)
  case atStart => exact ⟨0, Nat.zero_le _, rfl, Lib.hid ⟨fun j hj => ⟨fun h => absurd h (by omega), HH.out.got _ (List.getElem_mem hj)⟩, Chg.refl _ _⟩⟩
  case round =>
    obtain ⟨k, hk, rfl, hI⟩ := hrel
    obtain ⟨wo, rfl⟩ : ∃ wo, wo = wr := ⟨_, rfl⟩
    have hcb : wo.heap[b]? = some (.cells cs 35 (0, 0)) := hI.out.2.keep HCs.out.1 fun ⟨h, hh, e⟩ => HH.out.offb h hh e
    have xr := cell_in hcb HCs.out.2
    by_cases hlt : k < N
    · have hkE : k < E.length := by rw [← HN.out]; exact hlt
      obtain ⟨v0, hv0⟩ : ∃ v0, v0 = E[k].v := ⟨_, rfl⟩
      obtain ⟨n, hn⟩ : ∃ n, n = E[k].n := ⟨_, rfl⟩
      obtain ⟨m, hm⟩ : ∃ m, m = E[k].m := ⟨_, rfl⟩
      have hmem : E[k] ∈ E := List.getElem_mem hkE
      have hsm := HH.out.small _ hmem
      rw [← hn, ← hm] at hsm
      obtain ⟨hn9, hm9⟩ := hsm
      obtain ⟨xs, hxs⟩ := (hI.out.1 k hkE).2
      rw [← hv0, ← hn] at hxs
      obtain ⟨va, vc, rfl, hvc, _⟩ := hxs.form
      have hrow := HH.out.row.chg hI.out.2 fun j hj ⟨h, hh, e⟩ => HH.out.offt h hh j e hj
      rw [← HN.out] at hrow
      obtain ⟨tg, hta⟩ : ∃ tg, ta = some ⟨tg, 0, none⟩ := by
        rcases hrow.2 with ⟨e, hz⟩ | ⟨g, cap, cur, e, _⟩
        · omega
        · cases e; exact ⟨g, rfl⟩
      subst hta
      obtain ⟨g1, g2, g3⟩ := heldC_get hkE
      have y0 := hrow.cell rfl (i := k * 3) (by omega)
      have y1 := hrow.cell rfl (i := k * 3 + 1) (by omega)
      have y2 := hrow.cell rfl (i := k * 3 + 2) (by omega)
      rw [g1, ← hv0] at y0
      rw [g2, HG.out _ hmem] at y1
      rw [g3, ← hm] at y2
      obtain ⟨w4, hw4⟩ : ∃ w4, w4 = wo.alloc (.cells #[.slice va n vc, .slice none 0 0, .int .i64 m] 106) := ⟨_, rfl⟩
      have hb4 : w4.heap[wo.heap.size]? = some (.cells #[.slice va n vc, .slice none 0 0, .int .i64 m] 106 (0, 0)) := by rw [hw4]; exact heap_new _ _
      have hbl4 : Below wo.heap.size wo w4 := by rw [hw4]; exact (Below.refl _ _).alloc (Nat.le_refl _) _
      have z0 := cell_in hb4 (i := 0) rfl
      have hbv : ∀ j, vblock (.slice va n vc) = some j → blocksV E j := fun j hj => ⟨E[k], hmem, by rw [← hv0]; exact hj⟩
      have HX := Lib.hid (show SliceN w4 0 68 2 (.slice va n vc) n xs ∧ (∀ j, vblock (.slice va n vc) = some j → j < wo.heap.size) ∧ Base w0 w4 from ⟨hxs.below hbl4, fun j hj => (hxs.block_lt hj).2, (HB.out.chg hI.out.2 HE.out).below hbl4⟩)
      have HBv := Lib.hid (And.intro hbv (And.intro hb4 hbl4))
      have HE3 := Lib.hid (And.intro hv0 (And.intro hn hm))
      have HW4 := Lib.hid hw4
      clear hxs hrow g1 g2 g3 hv0 hn hm hw4 hb4 hbl4 hbv hmem
      go_wp2_with fail
      rw [← HW4.out]
      go_loopw [4] (fun j wq => ∃ q : Nat, q ≤ n ∧ j = .int .i64 q ∧ Hid ((∃ ys, SliceN wq 0 68 2 (.slice va n vc) n (rep q (markP m) ++ ys)) ∧ Chg (fun x => vblock (.slice va n vc) = some x) w4 wq)) (fun j _ => n - (intOf j).toNat)
      case atStart => exact ⟨0, Nat.zero_le _, rfl, Lib.hid ⟨⟨xs, HX.out.1⟩, Chg.refl _ _⟩⟩
      case round =>
        obtain ⟨q, hq, rfl, hJ⟩ := hrel
        obtain ⟨⟨ys, hys⟩, hC⟩ := hJ.out
        have hB2 := HX.out.2.2.chg hC fun j hj => HE.out j (HBv.out.1 j hj)
        have hbd : Below wr.heap.size wr wr.drew := belowN (Below.refl _ _) 1
        have hh : wr.heap[wo.heap.size]? = some (.cells #[.slice va n vc, .slice none 0 0, .int .i64 m] 106 (0, 0)) := hC.keep HBv.out.2.1 fun e => by have := HX.out.2.1 _ e; omega
        have c0 := cell_in hh (i := 0) rfl
        have c2 := cell_in hh (i := 2) rfl
        by_cases hlq : q < n
        · have hd0 : wr.drew.cell? ⟨wo.heap.size, 0, none⟩ = some (.slice va n vc) := c0
          have hd2 : wr.drew.cell? ⟨wo.heap.size, 2, none⟩ = some (.int .i64 m) := c2
          obtain ⟨X1, f, hX1, hff, hF⟩ := classOf (fun y => y.cell? ⟨wo.heap.size, 0, none⟩ = some (.slice va n vc) ∧ y.cell? ⟨wo.heap.size, 2, none⟩ = some (.int .i64 m)) (w := wr.drew) ⟨hd0, hd2⟩
          have hf0 := fun x => (hff x).1
          have hf2 := fun x => (hff x).2
          have H0 := Lib.hid (hF wr.drew ⟨hd0, hd2⟩)
          have HM := Lib.hid (markPair_any (hB2.below hbd).now m hm9)
          have HJ2 := Lib.hid (And.intro hys (And.intro hC (And.intro hB2 hh)))
          have HFc := Lib.hid hF
          clear hJ hys hC hB2 hh hff hF hd0 hd2
          go_wp2_with fail
          refine wp_region_text ⟨[5, 7], [], 7⟩ (fun w' => ∃ x : X1, w' = f x) (by kernel_rfl) (by kernel_rfl) H0.out ?_
          refine wpC_seg false (H0.out) 5 0 _ _ (by rfl) (by rfl) ?_
          simp only [List.take_succ_cons, List.take_zero, List.drop_succ_cons, List.drop_zero, Bool.false_eq_true, if_false, Nat.zero_add, Nat.reduceAdd]
          repeat (go_big_quiet_step (fail))
          refine wpQuiet_nil ?_
          refine wpC_loud (by rfl) (by rfl) fun K hK => ?_
          go_wp2_with fail
          refine HM.out.mono ?_
          rintro e w5 ⟨rfl, b5⟩
          have hb5 : Below wr.heap.size wr w5 := hbd.trans b5
          obtain ⟨g, cap, cur, ev, hrow5, hroom, hs6⟩ := (HJ2.out.1.below hb5).write hlq (markP m) rfl
          cases ev
          have hh5 : w5.heap[wo.heap.size]? = some (.cells #[.slice (some ⟨g, 0, none⟩) n vc, .slice none 0 0, .int .i64 m] 106 (0, 0)) := (Chg.of_below (fun _ => False) hb5).keep HJ2.out.2.2.2 id
          have H5 := Lib.hid (HFc.out w5 ⟨cell_in hh5 (i := 0) rfl, cell_in hh5 (i := 2) rfl⟩)
          obtain ⟨w6, hw6⟩ : ∃ w6, w6 = (w5.setCell ⟨g, q * 2, none⟩ (.string (wordB m))).setCell ⟨g, q * 2 + 1, none⟩ (.string ⟨#[]⟩) := ⟨_, rfl⟩
          obtain ⟨w5a, hw5a⟩ : ∃ w5a, w5a = w5.setCell ⟨g, q * 2, none⟩ (.string (wordB m)) := ⟨_, rfl⟩
          have e5a : w5a = w5.setRow g (cur.setIfInBounds (q * 2) (.string (wordB m))) := by rw [hw5a, hrow5.setCell]
          have hrow5a : RowAt w5a g 68 (cur.setIfInBounds (q * 2) (.string (wordB m))) := by rw [e5a]; exact hrow5.setRow (by simp)
          have e6 : w6 = w5.setRow g (wrs cur (q * 2) (markP m)) := by rw [hw6, ← hw5a, hrow5a.setCell, e5a, setRow_setRow]; rfl
          have x5 : w5.cell? ⟨g, q * 2, none⟩ = some (cur.getD (q * 2) undef) := hrow5.cell (by rw [Array.getD_eq_getD_getElem?, Array.getElem?_eq_getElem (by omega)]; rfl)
          have f5 := hrow5.free (i := q * 2) (by omega)
          have x6 : (w5.setCell ⟨g, q * 2, none⟩ (.string (wordB m))).cell? ⟨g, q * 2 + 1, none⟩ = some ((cur.setIfInBounds (q * 2) (.string (wordB m))).getD (q * 2 + 1) undef) := by
            rw [← hw5a]; exact hrow5a.cell (by rw [Array.getD_eq_getD_getElem?, Array.getElem?_eq_getElem (by simp; omega)]; rfl)
          have f6 := hrow5a.free (i := q * 2 + 1) (by simp; omega)
          rw [hw5a] at f6
          have hc56 : Chg (fun x => vblock (.slice (some ⟨g, 0, none⟩) n vc) = some x) w5 w6 := by
            rw [hw6]; exact (Chg.setCell (fun x => vblock (.slice (some ⟨g, 0, none⟩) n vc) = some x) w5 ⟨g, q * 2, none⟩ _ rfl).trans (Chg.setCell (fun x => vblock (.slice (some ⟨g, 0, none⟩) n vc) = some x) _ ⟨g, q * 2 + 1, none⟩ _ rfl) fun _ h _ => h
          have HS := Lib.hid (show (∃ ys, SliceN w6 0 68 2 (.slice (some ⟨g, 0, none⟩) n vc) n (rep (q + 1) (markP m) ++ ys)) ∧ Chg (fun x => vblock (.slice (some ⟨g, 0, none⟩) n vc) = some x) w4 w6 from by
            refine ⟨⟨ys.drop 2, ?_⟩, ?_⟩
            · rw [← e6] at hs6
              have hl := rep_length q (markP m)
              have e : (rep q (markP m) ++ ys).take (q * 2) ++ markP m ++ (rep q (markP m) ++ ys).drop (q * 2 + 2) = rep (q + 1) (markP m) ++ ys.drop 2 := by
                have hl2 : (rep q (markP m)).length = q * 2 := hl
                rw [rep_succ, List.take_left' hl2, ← List.drop_drop, List.drop_left' hl2]
              rw [e] at hs6
              exact hs6
            · exact (HJ2.out.2.1.trans (Chg.of_below _ hb5) fun j hj _ => hj).trans hc56 fun j hj _ => hj)
          have HW6 := Lib.hid hw6
          clear hs6 hrow5 hw6 e6 b5 hb5 hh5 hc56 e5a hrow5a hw5a w5a
          refine hK _ _ (fun _ => H5.out) ?_
          clear hK
          refine wpC_seg false (H5.out) 1 6 _ _ (by rfl) (by rfl) ?_
          simp only [List.take_succ_cons, List.take_zero, List.drop_succ_cons, List.drop_zero, Bool.false_eq_true, if_false, Nat.zero_add, Nat.reduceAdd]
          repeat (go_big_quiet_step (fail))
          refine wpQuiet_nil ?_
          refine wpC_loud (by rfl) (by rfl) fun K hK => ?_
          go_wp2_with fail
          rw [← HW6.out]
          refine hK _ _ (fun h => absurd h (by decide)) ?_
          clear hK
          refine wpC_nil ?_
          clear hf0 hf2 hX1 H0 H5
          go_wp2_with fail
          go_roundw
          case rel => exact ⟨q + 1, by omega, by go_num, HS⟩
          case measure => simp [intOf]; omega
        · obtain rfl : q = n := by omega
          have HS := Lib.hid (show (∀ j (hj : j < E.length), (j < k + 1 → SliceN wr 0 68 2 E[j].v E[j].n (rep E[j].n (markP E[j].m))) ∧ ∃ xs, SliceN wr 0 68 2 E[j].v E[j].n xs) ∧ Chg (blocksV E) w wr by
            obtain ⟨hv0, hn, hm⟩ := HE3.out
            have hyl : ys = [] := by
              have h1 := hys.1
              have h2 := rep_length q (markP m)
              rw [List.length_append, h2] at h1
              exact List.eq_nil_of_length_eq_zero (by have : q * (markP m).length = q * 2 := rfl; omega)
            rw [hyl, List.append_nil] at hys
            have hcw : Chg (fun x => vblock (.slice va q vc) = some x) wo wr := (Chg.of_below _ HBv.out.2.2).trans hC fun j hj _ => hj
            refine ⟨fun j hj => ?_, hI.out.2.trans hcw fun j hj _ => HBv.out.1 j hj⟩
            by_cases hjk : j = k
            · subst hjk
              rw [← hv0, ← hn, ← hm]
              exact ⟨fun _ => hys, _, hys⟩
            · obtain ⟨h1, ⟨xs1, h2⟩⟩ := hI.out.1 j hj
              have hap : ∀ x, vblock E[j].v = some x → ¬ vblock (.slice va q vc) = some x := fun x hx hy => HH.out.apart j k hj hkE hjk x hx (by rw [← hv0]; exact hy)
              exact ⟨fun hlt2 => (h1 (by omega)).chg hcw hap, xs1, h2.chg hcw hap⟩)
          clear hJ hys hC hB2 hh
          go_wp2_with fail
          go_roundw
          case rel => exact ⟨k + 1, by omega, by go_num, HS⟩
          case measure => simp [intOf]; omega
    · obtain rfl : k = N := by omega
      have HS := Lib.hid (show (∀ h ∈ E, SliceN wo 0 68 2 h.v h.n (rep h.n (markP h.m))) ∧ Chg (blocksV E) w wo from
        ⟨fun h hh => by
          obtain ⟨j, hj, rfl⟩ := List.getElem_of_mem hh
          exact (hI.out.1 j hj).1 (by rw [HN.out]; exact hj), hI.out.2⟩)
      clear hI
      go_wp2_with fail
      go_end0
      exact ⟨⟨_, rfl⟩, HS.out⟩
end Go.Proofs.YtmaemgihhipllaaGreatDoor

/- The book: growPair. (Printed by gen_bkp5.py.) -/
namespace Go.Proofs.YtmaemgihhipllaaGreatDoor
set_option linter.unusedVariables false
set_option linter.unusedSimpArgs false
open Go.RowKit
theorem info_pairB : (Tryz.prog.info? 68).map (fun i => (i.zero, i.size, i.bytes)) = some (some (.agg #[.string ByteArray.empty, .string ByteArray.empty]), 2, 32) := by kernel_rfl
set_option maxHeartbeats 6400000 in
set_option maxRecDepth 100000 in
theorem growPair_any {w0 w : World} (hB : Base w0 w) {b : Nat} {tv : Value} {E : List Held} (h : Holds w b 4 106 68 2 tv E) (hE : ∀ k, blocksV E k → w0.heap.size ≤ k) (hg : ∀ h ∈ E, h.g = .slice none 0 0)
    (hm : ∀ h ∈ E, SliceN w 0 68 2 h.v h.n (rep h.n (markP h.m))) (htv : ∀ k, vblock tv = some k → w0.heap.size ≤ k) (hbt : vblock tv ≠ some b) :
    Calls Tryz.prog 34 #[bkp b] w fun e w' => (∃ v, e = .returned v) ∧ (∃ E', Grown w' b 4 106 2 markP tv E' ∧ Agree E E' ∧ ∀ h ∈ E', vblock h.g = vblock h.v ∨ ∃ x, vblock h.g = some x ∧ w.heap.size ≤ x) ∧ Chg (fun x => blocksV E x ∨ vblock tv = some x) w w' := by
  obtain ⟨N, hN⟩ : ∃ N, N = E.length := ⟨_, rfl⟩
  obtain ⟨ta, tc, rfl, htc, _⟩ := h.row.form
  rw [← hN] at htc
  have hN6 : N ≤ 1000000 := by have := h.few; omega
  have HH := Lib.hid h
  have HB := Lib.hid hB
  have HE := Lib.hid (And.intro hE htv)
  have HM := Lib.hid hm
  have HN := Lib.hid hN
  have HBt := Lib.hid hbt
  have HLt := Lib.hid (show ∀ x, blocksV E x ∨ vblock (.slice ta E.length tc) = some x → x < w.heap.size by
    rintro x (⟨h1, hh, e⟩ | hx)
    · exact ((hm h1 hh).block_lt e).2
    · exact (h.row.block_lt hx).2)
  obtain ⟨cs, hcs, hci⟩ := h.head
  have hcsb : ¬ (blocksV E b ∨ vblock (.slice ta E.length tc) = some b) := by
    rintro (⟨h1, hh, e⟩ | hx)
    · exact h.offb h1 hh e
    · exact hbt hx
  rw [← hN] at hci
  have HCs := Lib.hid (And.intro hcs (And.intro hci hcsb))
  have HS0 := Lib.hid (show Grew w0 w 68 106 2 markP (.slice ta E.length tc) E E 0 w from ⟨Agree.refl E, h.row, fun _ _ _ h => by omega, fun j h1 _ _ => ⟨hg _ (List.getElem_mem h1), hm _ (List.getElem_mem h1)⟩, Chg.refl _ _⟩)
  clear h hB hE hg hm htv hN hcs hci hbt hcsb
  go_enter Tryz.func34, Tryz.ntmps34
  go_wp2_with fail
  go_loopw [2] (fun i wr => ∃ k : Nat, k ≤ N ∧ i = .int .i64 k ∧ Hid (∃ E', Grew w0 w 68 106 2 markP (.slice ta E.length tc) E E' k wr)) (fun i _ => N - (intOf i).toNat)
  case atStart => exact ⟨0, Nat.zero_le _, rfl, Lib.hid ⟨E, HS0.out⟩⟩
  case round =>
    obtain ⟨k, hk, rfl, hI⟩ := hrel
    obtain ⟨wo, rfl⟩ : ∃ wo, wo = wr := ⟨_, rfl⟩
    obtain ⟨E', hE'⟩ := hI.out
    have hcb : wo.heap[b]? = some (.cells cs 35 (0, 0)) := hE'.chg.keep HCs.out.1 HCs.out.2.2
    have xr := cell_in hcb HCs.out.2.1
    by_cases hlt : k < N
    · have hkE : k < E.length := by rw [← HN.out]; exact hlt
      have hkE' : k < E'.length := by rw [hE'.agree.1]; exact hkE
      obtain ⟨v0, hv0⟩ : ∃ v0, v0 = E[k].v := ⟨_, rfl⟩
      obtain ⟨n, hn⟩ : ∃ n, n = E[k].n := ⟨_, rfl⟩
      obtain ⟨m, hm⟩ : ∃ m, m = E[k].m := ⟨_, rfl⟩
      have hmem : E[k] ∈ E := List.getElem_mem hkE
      have hsm := HH.out.small _ hmem
      rw [← hn, ← hm] at hsm
      obtain ⟨hn9, hm9⟩ := hsm
      obtain ⟨hgn, hxs⟩ := hE'.new k hkE hkE' (Nat.le_refl _)
      rw [← hv0, ← hn, ← hm] at hxs
      obtain ⟨va, vc, rfl, hvc, _⟩ := hxs.form
      have hrow := hE'.row
      rw [hE'.agree.1, ← HN.out] at hrow
      obtain ⟨tg, hta⟩ : ∃ tg, ta = some ⟨tg, 0, none⟩ := by
        rcases HS0.out.row.2 with ⟨e, hz⟩ | ⟨g, cap, cur, e, _⟩
        · omega
        · cases e; exact ⟨g, rfl⟩
      subst hta
      obtain ⟨g1, g2, g3⟩ := heldC_get hkE'
      obtain ⟨a1, a2, a3⟩ := hE'.agree.2 k hkE hkE'
      have y0 := hrow.cell rfl (i := k * 3) (by omega)
      have y1 := hrow.cell rfl (i := k * 3 + 1) (by omega)
      have y2 := hrow.cell rfl (i := k * 3 + 2) (by omega)
      rw [g1, a1, ← hv0] at y0
      rw [g2, hgn] at y1
      rw [g3, a3, ← hm] at y2
      obtain ⟨w4, hw4⟩ : ∃ w4, w4 = wo.alloc (.cells #[.slice va n vc, .slice none 0 0, .int .i64 m] 106) := ⟨_, rfl⟩
      have hb4 : w4.heap[wo.heap.size]? = some (.cells #[.slice va n vc, .slice none 0 0, .int .i64 m] 106 (0, 0)) := by rw [hw4]; exact heap_new _ _
      have hbl4 : Below wo.heap.size wo w4 := by rw [hw4]; exact (Below.refl _ _).alloc (Nat.le_refl _) _
      have z0 := cell_in hb4 (i := 0) rfl
      have hbv : ∀ j, vblock (.slice va n vc) = some j → blocksV E j := fun j hj => ⟨E[k], hmem, by rw [← hv0]; exact hj⟩
      have hbo : ∀ x, blocksV E x ∨ vblock (.slice (some ⟨tg, 0, none⟩) E.length tc) = some x → w0.heap.size ≤ x := fun x hx => hx.elim (HE.out.1 x) (HE.out.2 x)
      have HX := Lib.hid (show SliceN w4 0 68 2 (.slice va n vc) n (rep n (markP m)) ∧ (∀ j, vblock (.slice va n vc) = some j → j < w.heap.size) ∧ Base w0 w4 from ⟨hxs.below hbl4, fun j hj => HLt.out j (.inl (hbv j hj)), (HB.out.chg hE'.chg hbo).below hbl4⟩)
      have HBv := Lib.hid (And.intro hbv (And.intro hb4 (And.intro hbl4 hcb)))
      have HE3 := Lib.hid (And.intro hv0 (And.intro hn (And.intro hm (And.intro hE' (And.intro hkE hkE')))))
      have HW4 := Lib.hid hw4
      have hws : w.heap.size ≤ wo.heap.size := hE'.chg.size
      clear hxs hrow g1 g2 g3 hv0 hn hm hw4 hb4 hbl4 hbv hmem a1 a2 a3 hgn hcb hE' hbo
      go_wp2_with fail
      rw [← HW4.out]
      go_loopw [4, 5] (fun lv j wq => ∃ q : Nat, q ≤ 70 ∧ j = .int .i64 q ∧ Hid (SliceN wq 0 68 2 lv (n + q) (rep (n + q) (markP m)) ∧ Reads wq 2 (.slice va n vc) n (rep n (markP m)) ∧ Chg (fun x => vblock (.slice va n vc) = some x) w4 wq ∧ (vblock lv = vblock (.slice va n vc) ∨ ∃ x, vblock lv = some x ∧ wo.heap.size ≤ x))) (fun _ j _ => 70 - (intOf j).toNat)
      case atStart => exact ⟨0, Nat.zero_le _, rfl, Lib.hid ⟨HX.out.1, HX.out.1.reads, Chg.refl _ _, .inl rfl⟩⟩
      case round =>
        obtain ⟨q, hq, rfl, hJ⟩ := hrel
        obtain ⟨hys, hrd, hC, hvb⟩ := hJ.out
        obtain ⟨la, lc, rfl, hlc, _⟩ := hys.form
        have hB2 := HX.out.2.2.chg hC fun j hj => HE.out.1 j (HBv.out.1 j hj)
        have hh : wr.heap[wo.heap.size]? = some (.cells #[.slice va n vc, .slice none 0 0, .int .i64 m] 106 (0, 0)) := hC.keep HBv.out.2.1 fun e => by have := HX.out.2.1 _ e; omega
        have c2 := cell_in hh (i := 2) rfl
        by_cases hlq : q < 70
        · have hdq : decide ((q : Int) < 70) = true := decide_eq_true (by omega)
          have HMk := Lib.hid (markPair_any hB2.now m hm9)
          have HJ2 := Lib.hid (And.intro hys (And.intro hrd (And.intro hC hvb)))
          clear hJ hys hC hB2 hh hrd hvb
          go_wp2_with fail
          refine HMk.out.mono ?_
          rintro e w5 ⟨rfl, b5⟩
          obtain ⟨i0, k1, k2, k3, k4⟩ := info_parts info_pairB
          obtain ⟨v3, w6, hr, s3, c3, hvb3⟩ := run_append_oneK (P := Tryz.prog) (t := 48) (ty := 48) Tryz.underlying48 k1 k2 k3 k4 rfl (HJ2.out.1.below b5) (Nat.zero_le _) (markP m) rfl (by simp [Value.oneCell']) (by unfold maxLen; omega) (by omega)
          have hrd5 := HJ2.out.2.1.chg (Chg.of_below (fun _ => False) b5) fun _ _ => id
          have hs5 := b5.size
          have HS := Lib.hid (show SliceN w6 0 68 2 v3 (n + (q + 1)) (rep (n + (q + 1)) (markP m)) ∧ Reads w6 2 (.slice va n vc) n (rep n (markP m)) ∧ Chg (fun x => vblock (.slice va n vc) = some x) w4 w6 ∧ (vblock v3 = vblock (.slice va n vc) ∨ ∃ x, vblock v3 = some x ∧ wo.heap.size ≤ x) from by
            have hs6 : SliceN w6 0 68 2 v3 (n + (q + 1)) (rep (n + (q + 1)) (markP m)) := by
              rw [← Nat.add_assoc, rep_succ]; exact s3
            have hwz : wo.heap.size ≤ wr.heap.size := Nat.le_trans HBv.out.2.2.1.size HJ2.out.2.2.1.size
            have hvlt : ∀ j, vblock (.slice va n vc) = some j → j < wo.heap.size := fun j hj => by have := HX.out.2.1 j hj; omega
            have hw6 : Chg (fun x => vblock (.slice va n vc) = some x) w4 w6 := (HJ2.out.2.2.1.trans (Chg.of_below _ b5) fun j hj _ => hj).trans c3 fun j hj hlt4 => by
              rcases HJ2.out.2.2.2 with e | ⟨x, e, hx⟩
              · rw [e] at hj; exact hj.1
              · rw [e] at hj
                obtain ⟨hj1, _⟩ := hj
                cases hj1
                have h6 : w4.heap.size = wo.heap.size + 1 := by rw [HW4.out]; simp
                have h7 := (HJ2.out.1.block_lt e).1
                by_cases hxe : j = wo.heap.size
                · have hrow := HJ2.out.1
                  have hcel : wr.heap[wo.heap.size]? = some (.cells #[.slice va n vc, .slice none 0 0, .int .i64 m] 106 (0, 0)) := HJ2.out.2.2.1.keep HBv.out.2.1 fun e2 => by have := HX.out.2.1 _ e2; omega
                  exfalso
                  rcases hrow.2 with ⟨e3, _⟩ | ⟨g3, cap3, cur3, e3, _, ⟨fz, _, hrw⟩, _⟩
                  · rw [e3] at e; cases e
                  · rw [e3] at e
                    have hjg : g3 = j := Option.some.inj e
                    rw [hjg, hxe, hcel] at hrw
                    cases hrw
                · omega
            refine ⟨hs6, ?_, hw6, ?_⟩
            · by_cases hst : vblock v3 = vblock (.slice la (n + q) lc) ∧ vblock (.slice la (n + q) lc) = vblock (.slice va n vc)
              · rcases hs6.reads with ⟨rfl, hz⟩ | ⟨g, cap, rfl, _, _, hcl⟩
                · omega
                · rcases hrd5 with h0 | ⟨g', cap', e, h1, h2, h3⟩
                  · exact .inl h0
                  · have hgg : g = g' := by
                      have e9 := hst.1.trans hst.2
                      rw [e] at e9
                      cases e9; rfl
                    subst hgg
                    refine .inr ⟨g, cap', e, h1, h2, fun i hi => ?_⟩
                    rw [hcl i (by omega), rep_prefix n (q + 1) (markP m) (by simpa using hi)]
              · refine hrd5.chg c3 fun j hj ⟨h1, h2⟩ => hst ?_
                rw [h1, h2, hj]
                exact ⟨rfl, rfl⟩
            · rcases hvb3 with e | ⟨x, e, hx⟩
              · rw [e]; exact HJ2.out.2.2.2
              · exact .inr ⟨x, e, by omega⟩)
          have HR := Lib.hid hr
          obtain ⟨a3, c3', rfl, _⟩ := s3.form
          clear hr s3 c3 hvb3 k1 k2 k3 k4 hrd5 hs5 b5
          go_wp2_with (at_builtin; refine wpList_append_run rfl rfl HR.out ?_)
          go_roundw
          case rel => exact ⟨q + 1, by omega, by go_num, HS⟩
          case measure => simp [intOf]; omega
        · obtain rfl : q = 70 := by omega
          rw [show ((70 : Nat) : Int) = 70 from rfl]
          have hd70 : decide ((70 : Int) < 70) = false := by decide
          obtain ⟨hv0, hn, hm, hE', hkE, hkE'⟩ := HE3.out
          have hcw : Chg (fun x => vblock (.slice va n vc) = some x) wo wr := (Chg.of_below _ HBv.out.2.2.1).trans hC fun j hj _ => hj
          have hvbk : ∀ x, vblock (.slice va n vc) = some x → blocksV E x := HBv.out.1
          have hcb2 : wr.heap[b]? = some (.cells cs 35 (0, 0)) := hcw.keep HBv.out.2.2.2 fun e => HCs.out.2.2 (.inl (hvbk _ e))
          have xb2 := cell_in hcb2 HCs.out.2.1
          have hrow2 := hE'.row.chg hcw fun j hj e => by
            obtain ⟨h1, hh1, e1⟩ := hvbk j e
            exact HH.out.offt h1 hh1 j e1 hj
          have hrow3 := hrow2
          rw [hE'.agree.1, ← HN.out] at hrow3
          have y1' := hrow3.cell rfl (i := k * 3 + 1) (by omega)
          rw [(heldC_get hkE').2.1, (hE'.new k hkE hkE' (Nat.le_refl _)).1] at y1'
          obtain ⟨hput, hfz⟩ := hrow2.put (g := tg) (c := tc) (m := E.length) rfl (p := k * 3 + 1) (by omega) (.slice la (n + 70) lc)
          obtain ⟨w7, hw7⟩ : ∃ w7, w7 = wr.setCell ⟨tg, k * 3 + 1, none⟩ (.slice la (n + 70) lc) := ⟨_, rfl⟩
          rw [← hw7] at hput
          have hc7 : Chg (fun x => x = tg) wr w7 := by rw [hw7]; exact Chg.setCell _ _ _ _ rfl
          have HS := Lib.hid (show ∃ E', Grew w0 w 68 106 2 markP (.slice (some ⟨tg, 0, none⟩) E.length tc) E E' (k + 1) w7 from by
            have htgl : tg < w.heap.size := HLt.out tg (.inr rfl)
            have hntg : ∀ j (h1 : j < E.length), ∀ x, vblock E[j].v = some x → x ≠ tg := fun j h1 x hx e => HH.out.offt _ (List.getElem_mem h1) x hx (by rw [e]; rfl)
            refine ⟨E'.set k { E'[k] with g := .slice la (n + 70) lc }, hE'.agree.set hkE' _, ?_, ?_, ?_, ?_⟩
            · rw [List.length_set, heldC_set hkE']; exact hput
            · intro j h1 h2 hjk
              have h2' : j < E'.length := by rw [List.length_set] at h2; exact h2
              rw [List.getElem_set]
              by_cases hjk2 : k = j
              · subst hjk2
                rw [if_pos rfl, ← hv0, ← hn, ← hm]
                refine ⟨hrd.chg hc7 fun x hx e => hntg k hkE x (by rw [← hv0]; exact hx) e, hys.reads.chg hc7 fun x hx e => ?_, ?_⟩
                · rcases hvb with e2 | ⟨y, e2, hy⟩
                  · rw [e2] at hx
                    exact hntg k hkE x (by rw [← hv0]; exact hx) e
                  · rw [e2] at hx; cases hx; omega
                · rcases hvb with e2 | ⟨y, e2, hy⟩
                  · exact .inl e2
                  · exact .inr ⟨y, e2, by omega⟩
              · rw [if_neg hjk2]
                obtain ⟨o1, o2, o3⟩ := hE'.old j h1 h2' (by omega)
                have hvv : ∀ x, vblock E[j].v = some x → ¬ vblock (.slice va n vc) = some x := fun x hx hy => HH.out.apart j k h1 hkE (fun e => hjk2 e.symm) x hx (by rw [← hv0]; exact hy)
                have hgv : ∀ x, vblock E'[j].g = some x → ¬ vblock (.slice va n vc) = some x ∧ x ≠ tg := fun x hx => by
                  rcases o3 with e2 | ⟨y, e2, hy⟩
                  · rw [e2] at hx; exact ⟨hvv x hx, hntg j h1 x hx⟩
                  · rw [e2] at hx; cases hx
                    exact ⟨fun e3 => by have := HX.out.2.1 _ e3; omega, by omega⟩
                exact ⟨(o1.chg hcw fun x hx => hvv x hx).chg hc7 fun x hx e => hntg j h1 x hx e, (o2.chg hcw fun x hx => (hgv x hx).1).chg hc7 fun x hx e => (hgv x hx).2 e, o3⟩
            · intro j h1 h2 hjk
              have h2' : j < E'.length := by rw [List.length_set] at h2; exact h2
              rw [List.getElem_set, if_neg (by omega)]
              obtain ⟨o1, o2⟩ := hE'.new j h1 h2' (by omega)
              exact ⟨o1, (o2.chg hcw fun x hx hy => HH.out.apart j k h1 hkE (by omega) x hx (by rw [← hv0]; exact hy)).chg hc7 fun x hx e => hntg j h1 x hx e⟩
            · exact (hE'.chg.trans hcw fun x hx _ => .inl (hvbk x hx)).trans hc7 fun x hx _ => .inr (by rw [hx]; rfl))
          have HW7 := Lib.hid hw7
          clear hJ hys hC hB2 hh hrd hvb hE' hv0 hn hm hcw hvbk hcb2 hrow2 hrow3 hput hw7 hc7
          go_wp2_with fail
          rw [← HW7.out]
          go_roundw
          case rel => exact ⟨k + 1, by omega, by go_num, HS⟩
          case measure => simp [intOf]; omega
    · obtain rfl : k = N := by omega
      have HS := Lib.hid (show (∃ E', Grown wo b 4 106 2 markP (.slice ta E.length tc) E' ∧ Agree E E' ∧ ∀ h ∈ E', vblock h.g = vblock h.v ∨ ∃ x, vblock h.g = some x ∧ w.heap.size ≤ x) ∧ Chg (fun x => blocksV E x ∨ vblock (.slice ta E.length tc) = some x) w wo from by
        refine ⟨⟨E', ⟨⟨cs, hcb, by rw [← HN.out]; exact HCs.out.2.1⟩, hE'.row, ?_, ?_, ?_⟩, hE'.agree, ?_⟩, hE'.chg⟩
        · rw [hE'.agree.1]; exact HH.out.few
        · intro h hh
          obtain ⟨j, hj, rfl⟩ := List.getElem_of_mem hh
          have hj0 : j < E.length := by rw [← hE'.agree.1]; exact hj
          obtain ⟨_, a2, a3⟩ := hE'.agree.2 j hj0 hj
          rw [a2, a3]
          exact HH.out.small _ (List.getElem_mem hj0)
        · intro h hh
          obtain ⟨j, hj, rfl⟩ := List.getElem_of_mem hh
          have hj0 : j < E.length := by rw [← hE'.agree.1]; exact hj
          obtain ⟨a1, a2, a3⟩ := hE'.agree.2 j hj0 hj
          obtain ⟨h1, h2, _⟩ := hE'.old j hj0 hj (by rw [HN.out]; exact hj0)
          rw [a1, a2, a3]
          exact ⟨h1, h2⟩
        · intro h hh
          obtain ⟨j, hj, rfl⟩ := List.getElem_of_mem hh
          have hj0 : j < E.length := by rw [← hE'.agree.1]; exact hj
          obtain ⟨a1, a2, a3⟩ := hE'.agree.2 j hj0 hj
          obtain ⟨_, _, h3⟩ := hE'.old j hj0 hj (by rw [HN.out]; exact hj0)
          rw [a1]
          exact h3)
      clear hI hE' hcb
      go_wp2_with fail
      go_end0
      exact ⟨⟨_, rfl⟩, HS.out⟩
end Go.Proofs.YtmaemgihhipllaaGreatDoor

/- The book: lookPair. (Printed by gen_bkp6.py.) -/
namespace Go.Proofs.YtmaemgihhipllaaGreatDoor
set_option linter.unusedVariables false
set_option linter.unusedSimpArgs false
open Go.RowKit
theorem rep_atPair {n i j : Nat} (us : List Value) (hi : i < n) (hl : us.length = 2) (hj : j < 2) : (rep n us).getD (i * 2 + j) undef = us.getD j undef := by
  have := rep_get n us (k := i) (j := j) hi (by omega)
  rw [hl] at this
  exact this
set_option maxHeartbeats 6400000 in
set_option maxRecDepth 100000 in
theorem lookPair_any {w0 w : World} (hB : Base w0 w) {b : Nat} {tv : Value} {E : List Held} (h : Grown w b 4 106 2 markP tv E) :
    Calls Tryz.prog 43 #[bkp b] w fun e w' => e = .returned (.bool true) ∧ Below w.heap.size w w' := by
  obtain ⟨N, hN⟩ : ∃ N, N = E.length := ⟨_, rfl⟩
  obtain ⟨ta, tc, rfl, htc, _⟩ := h.row.form
  rw [← hN] at htc
  have hN6 : N ≤ 1000000 := by have := h.few; omega
  have HH := Lib.hid h
  have HB := Lib.hid hB
  have HN := Lib.hid hN
  obtain ⟨cs, hcs, hci⟩ := h.head
  rw [← hN] at hci
  have HCs := Lib.hid (And.intro hcs hci)
  clear h hB hN hcs hci
  go_enter Tryz.func43, Tryz.ntmps43
  go_wp2_with fail
  go_loopw [3] (fun i wr => ∃ k : Nat, k ≤ N ∧ i = .int .i64 k ∧ Hid (Below w.heap.size w wr)) (fun i _ => N - (intOf i).toNat)
  case atStart => exact ⟨0, Nat.zero_le _, rfl, Lib.hid (Below.refl _ _)⟩
  case round =>
    obtain ⟨k, hk, rfl, hI⟩ := hrel
    obtain ⟨wo, rfl⟩ : ∃ wo, wo = wr := ⟨_, rfl⟩
    have hcb : wo.heap[b]? = some (.cells cs 35 (0, 0)) := (Chg.of_below (fun _ => False) hI.out).keep HCs.out.1 id
    have xr := cell_in hcb HCs.out.2
    by_cases hlt : k < N
    · have hkE : k < E.length := by rw [← HN.out]; exact hlt
      obtain ⟨v0, hv0⟩ : ∃ v0, v0 = E[k].v := ⟨_, rfl⟩
      obtain ⟨g0, hg0⟩ : ∃ g0, g0 = E[k].g := ⟨_, rfl⟩
      obtain ⟨n, hn⟩ : ∃ n, n = E[k].n := ⟨_, rfl⟩
      obtain ⟨m, hm⟩ : ∃ m, m = E[k].m := ⟨_, rfl⟩
      have hmem : E[k] ∈ E := List.getElem_mem hkE
      have hsm := HH.out.small _ hmem
      rw [← hn, ← hm] at hsm
      obtain ⟨hn9, hm9⟩ := hsm
      obtain ⟨hxv, hxg⟩ := HH.out.got _ hmem
      rw [← hv0, ← hn, ← hm] at hxv
      rw [← hg0, ← hn, ← hm] at hxg
      obtain ⟨va, vc, rfl, hvc, _⟩ := hxv.form
      obtain ⟨ga, gc, rfl, hgc, _⟩ := hxg.form
      have hrow := HH.out.row.below hI.out
      rw [← HN.out] at hrow
      obtain ⟨tg, hta⟩ : ∃ tg, ta = some ⟨tg, 0, none⟩ := by
        rcases hrow.2 with ⟨e, hz⟩ | ⟨g, cap, cur, e, _⟩
        · omega
        · cases e; exact ⟨g, rfl⟩
      subst hta
      obtain ⟨g1, g2, g3⟩ := heldC_get hkE
      have y0 := hrow.cell rfl (i := k * 3) (by omega)
      have y1 := hrow.cell rfl (i := k * 3 + 1) (by omega)
      have y2 := hrow.cell rfl (i := k * 3 + 2) (by omega)
      rw [g1, ← hv0] at y0
      rw [g2, ← hg0] at y1
      rw [g3, ← hm] at y2
      obtain ⟨w4, hw4⟩ : ∃ w4, w4 = wo.alloc (.cells #[.slice va n vc, .slice ga (n + 70) gc, .int .i64 m] 106) := ⟨_, rfl⟩
      have hb4 : w4.heap[wo.heap.size]? = some (.cells #[.slice va n vc, .slice ga (n + 70) gc, .int .i64 m] 106 (0, 0)) := by rw [hw4]; exact heap_new _ _
      have hbl4 : Below wo.heap.size wo w4 := by rw [hw4]; exact (Below.refl _ _).alloc (Nat.le_refl _) _
      have z0 := cell_in hb4 (i := 0) rfl
      have z1 := cell_in hb4 (i := 1) rfl
      have hbw4 : Below w.heap.size w w4 := hI.out.trans (hbl4.mono hI.out.size)
      have HX := Lib.hid (show Reads w4 2 (.slice va n vc) n (rep n (markP m)) ∧ Reads w4 2 (.slice ga (n + 70) gc) (n + 70) (rep (n + 70) (markP m)) ∧ Base w0 w4 ∧ Below w.heap.size w w4 from
        ⟨hxv.chg (Chg.of_below (fun _ => False) hbw4) fun _ _ => id, hxg.chg (Chg.of_below (fun _ => False) hbw4) fun _ _ => id, HB.out.below hbw4, hbw4⟩)
      have HW4 := Lib.hid hw4
      have HB4 := Lib.hid hb4
      have hne : (((n + 70 : Nat) : Int) != (n : Int) + 70) = false := by rw [bne_eq_false_iff_eq]; omega
      clear hxv hxg hrow g1 g2 g3 hv0 hg0 hn hm hw4 hb4 hbl4 hmem hbw4
      go_wp2_with fail
      rw [← HW4.out]
      go_loopw [5] (fun j wq => ∃ q : Nat, q ≤ n + 70 ∧ j = .int .i64 q ∧ Hid (Below w4.heap.size w4 wq)) (fun j _ => n + 70 - (intOf j).toNat)
      case atStart => exact ⟨0, Nat.zero_le _, rfl, Lib.hid (Below.refl _ _)⟩
      case round =>
        obtain ⟨q, hq, rfl, hJ⟩ := hrel
        have hh : wr.heap[wo.heap.size]? = some (.cells #[.slice va n vc, .slice ga (n + 70) gc, .int .i64 m] 106 (0, 0)) := (Chg.of_below (fun _ => False) hJ.out).keep HB4.out id
        have c1 := cell_in hh (i := 1) rfl
        by_cases hlq : q < n + 70
        · have hdq : decide ((q : Int) < (n : Int) + 70) = true := decide_eq_true (by omega)
          have hdq2 : decide (q < n + 70) = true := decide_eq_true (by omega)
          have hbd : Below w4.heap.size w4 wr.drew := belowN hJ.out 1
          obtain ⟨gg, gcap, hge, hgc20⟩ := (HX.out.2.1.chg (Chg.of_below (fun _ => False) hbd) fun _ _ => id).get (i := q * 2 + 0) (by omega)
          obtain ⟨gg1, gcap1, hge1, hgc21⟩ := (HX.out.2.1.chg (Chg.of_below (fun _ => False) hbd) fun _ _ => id).get (i := q * 2 + 1) (by omega)
          rw [rep_atPair (markP m) hlq rfl (by omega)] at hgc20
          rw [rep_atPair (markP m) hlq rfl (by omega)] at hgc21
          cases hge
          cases hge1
          have hgc2 := And.intro hgc20 hgc21
          have hgc2 : (wr.drew.cell? ⟨gg, q * 2, none⟩ = some (.string (wordB m)) ∧ wr.drew.cell? ⟨gg, q * 2 + 1, none⟩ = some (.string ⟨#[]⟩)) := hgc2
          have hd : ∀ w5, Below wr.drew.heap.size wr.drew w5 → w5.heap[wo.heap.size]? = some (.cells #[.slice va n vc, .slice (some ⟨gg, 0, none⟩) (n + 70) gc, .int .i64 m] 106 (0, 0)) ∧ (w5.cell? ⟨gg, q * 2, none⟩ = some (.string (wordB m)) ∧ w5.cell? ⟨gg, q * 2 + 1, none⟩ = some (.string ⟨#[]⟩)) := fun w5 b5 =>
            ⟨(Chg.of_below (fun _ => False) b5).keep hh id, ⟨cell_chg (Chg.of_below (fun _ => False) b5) hgc2.1 id, cell_chg (Chg.of_below (fun _ => False) b5) hgc2.2 id⟩⟩
          by_cases hqn : q < n
          · have hqd : decide ((q : Int) < (n : Int)) = true := decide_eq_true (by omega)
            have hqd2 : decide (q < n) = true := decide_eq_true (by omega)
            obtain ⟨vg, vcap, hve, hvc20⟩ := (HX.out.1.chg (Chg.of_below (fun _ => False) hbd) fun _ _ => id).get (i := q * 2 + 0) (by omega)
            obtain ⟨vg1, vcap1, hve1, hvc21⟩ := (HX.out.1.chg (Chg.of_below (fun _ => False) hbd) fun _ _ => id).get (i := q * 2 + 1) (by omega)
            rw [rep_atPair (markP m) hqn rfl (by omega)] at hvc20
            rw [rep_atPair (markP m) hqn rfl (by omega)] at hvc21
            cases hve
            cases hve1
            have hvc2 := And.intro hvc20 hvc21
            have hvc2 : (wr.drew.cell? ⟨vg, q * 2, none⟩ = some (.string (wordB m)) ∧ wr.drew.cell? ⟨vg, q * 2 + 1, none⟩ = some (.string ⟨#[]⟩)) := hvc2
            obtain ⟨X1, f, hX1, hff, hF⟩ := classOf (fun y => (y.heap[wo.heap.size]? = some (.cells #[.slice (some ⟨vg, 0, none⟩) n vc, .slice (some ⟨gg, 0, none⟩) (n + 70) gc, .int .i64 m] 106 (0, 0)) ∧ (y.cell? ⟨gg, q * 2, none⟩ = some (.string (wordB m)) ∧ y.cell? ⟨gg, q * 2 + 1, none⟩ = some (.string ⟨#[]⟩))) ∧ (y.cell? ⟨vg, q * 2, none⟩ = some (.string (wordB m)) ∧ y.cell? ⟨vg, q * 2 + 1, none⟩ = some (.string ⟨#[]⟩))) (w := wr.drew) ⟨hd _ (Below.refl _ _), hvc2⟩
            have hf0 := fun x => cell_in (hff x).1.1 (i := 0) rfl
            have hf1 := fun x => cell_in (hff x).1.1 (i := 1) rfl
            have hf2 := fun x => cell_in (hff x).1.1 (i := 2) rfl
            have hf30 := fun x => (hff x).1.2.1
            have hf31 := fun x => (hff x).1.2.2
            have hf40 := fun x => (hff x).2.1
            have hf41 := fun x => (hff x).2.2
            have H0 := Lib.hid (hF wr.drew ⟨hd _ (Below.refl _ _), hvc2⟩)
            have HFc := Lib.hid (fun (w5 : World) (b5 : Below wr.drew.heap.size wr.drew w5) => hF w5 ⟨hd w5 b5, ⟨cell_chg (Chg.of_below (fun _ => False) b5) hvc2.1 id, cell_chg (Chg.of_below (fun _ => False) b5) hvc2.2 id⟩⟩)
            have HIs := Lib.hid (fun (w5 : World) (b5 : Below wr.drew.heap.size wr.drew w5) => isPair_any (((HX.out.2.2.1.below hbd).below b5).now) m hm9)
            have HJ2 := Lib.hid hJ.out
            clear hJ hh hff hF hd hgc2 hvc2 hbd
            generalize wordB m = t at *
            go_wp2_with fail
            refine wp_region_text ⟨[7, 23], [], 27⟩ (fun w' => ∃ x : X1, w' = f x) (by kernel_rfl) (by kernel_rfl) H0.out ?_
            refine wpC_seg false (H0.out) 7 0 _ _ (by rfl) (by rfl) ?_
            simp only [List.take_succ_cons, List.take_zero, List.drop_succ_cons, List.drop_zero, Bool.false_eq_true, if_false, Nat.zero_add, Nat.reduceAdd]
            repeat (go_big_quiet_step (fail))
            refine wpQuiet_nil ?_
            refine wpC_loud (by rfl) (by rfl) fun K hK => ?_
            go_wp2_with fail
            refine (HIs.out _ (Below.refl _ _)).mono ?_
            rintro e w5 ⟨rfl, b5⟩
            have HB5 := Lib.hid b5
            have H5 := Lib.hid (HFc.out w5 b5)
            refine hK _ _ (fun _ => H5.out) ?_
            clear hK b5
            refine wpC_seg false (H5.out) 15 8 _ _ (by rfl) (by rfl) ?_
            simp only [List.take_succ_cons, List.take_zero, List.drop_succ_cons, List.drop_zero, Bool.false_eq_true, if_false, Nat.zero_add, Nat.reduceAdd]
            repeat (go_big_quiet_step (fail))
            refine wpQuiet_nil ?_
            refine wpC_loud (by rfl) (by rfl) fun K hK => ?_
            go_wp2_with fail
            refine (HIs.out _ HB5.out).mono ?_
            rintro e w6 ⟨rfl, b6⟩
            have HB6 := Lib.hid (HB5.out.trans (b6.mono HB5.out.size))
            have H6 := Lib.hid (HFc.out w6 HB6.out)
            refine hK _ _ (fun _ => H6.out) ?_
            clear hK b6
            refine wpC_seg false (H6.out) 3 24 _ _ (by rfl) (by rfl) ?_
            simp only [List.take_succ_cons, List.take_zero, List.drop_succ_cons, List.drop_zero, Bool.false_eq_true, if_false, Nat.zero_add, Nat.reduceAdd]
            repeat (go_big_quiet_step (fail))
            refine wpQuiet_nil ?_
            refine wpC_nil ?_
            have HS := Lib.hid (show Below w4.heap.size w4 w6 from HJ2.out.trans ((belowN (Below.refl wr.heap.size wr) 1).trans HB6.out |>.mono HJ2.out.size))
            clear hf0 hf1 hf2 hf30 hf31 hf40 hf41 hX1 H0 H5 H6 HFc HIs
            go_wp2_with fail
            go_roundw
            case rel => exact ⟨q + 1, by omega, by go_num, HS⟩
            case measure => simp [intOf]; omega
          · have hqd : decide ((q : Int) < (n : Int)) = false := decide_eq_false (by omega)
            have hqd2 : decide (q < n) = false := decide_eq_false (by omega)
            obtain ⟨X1, f, hX1, hff, hF⟩ := classOf (fun y => y.heap[wo.heap.size]? = some (.cells #[.slice va n vc, .slice (some ⟨gg, 0, none⟩) (n + 70) gc, .int .i64 m] 106 (0, 0)) ∧ (y.cell? ⟨gg, q * 2, none⟩ = some (.string (wordB m)) ∧ y.cell? ⟨gg, q * 2 + 1, none⟩ = some (.string ⟨#[]⟩))) (w := wr.drew) (hd _ (Below.refl _ _))
            have hf0 := fun x => cell_in (hff x).1 (i := 0) rfl
            have hf1 := fun x => cell_in (hff x).1 (i := 1) rfl
            have hf2 := fun x => cell_in (hff x).1 (i := 2) rfl
            have hf30 := fun x => (hff x).2.1
            have hf31 := fun x => (hff x).2.2
            have H0 := Lib.hid (hF wr.drew (hd _ (Below.refl _ _)))
            have HFc := Lib.hid (fun (w5 : World) (b5 : Below wr.drew.heap.size wr.drew w5) => hF w5 (hd w5 b5))
            have HIs := Lib.hid (isPair_any ((HX.out.2.2.1.below hbd).now) m hm9)
            have HJ2 := Lib.hid hJ.out
            clear hJ hh hff hF hd hgc2 hbd
            generalize wordB m = t at *
            go_wp2_with fail
            refine wp_region_text ⟨[7, 23], [], 27⟩ (fun w' => ∃ x : X1, w' = f x) (by kernel_rfl) (by kernel_rfl) H0.out ?_
            refine wpC_seg false (H0.out) 7 0 _ _ (by rfl) (by rfl) ?_
            simp only [List.take_succ_cons, List.take_zero, List.drop_succ_cons, List.drop_zero, Bool.false_eq_true, if_false, Nat.zero_add, Nat.reduceAdd]
            repeat (go_big_quiet_step (fail))
            refine wpQuiet_nil ?_
            refine wpC_loud (by rfl) (by rfl) fun K hK => ?_
            go_wp2_with fail
            refine HIs.out.mono ?_
            rintro e w5 ⟨rfl, b5⟩
            have HB5 := Lib.hid b5
            have H5 := Lib.hid (HFc.out w5 b5)
            refine hK _ _ (fun _ => H5.out) ?_
            clear hK b5
            refine wpC_seg false (H5.out) 15 8 _ _ (by rfl) (by rfl) ?_
            simp only [List.take_succ_cons, List.take_zero, List.drop_succ_cons, List.drop_zero, Bool.false_eq_true, if_false, Nat.zero_add, Nat.reduceAdd]
            repeat (go_big_quiet_step (fail))
            refine wpQuiet_nil ?_
            refine wpC_skip (by rfl) (by rfl) (fun _ => H5.out) ?_
            simp only [Act.put, List.setIfInBounds_toArray, List.set_cons_succ, List.set_cons_zero]
            refine wpC_seg false (H5.out) 3 24 _ _ (by rfl) (by rfl) ?_
            simp only [List.take_succ_cons, List.take_zero, List.drop_succ_cons, List.drop_zero, Bool.false_eq_true, if_false, Nat.zero_add, Nat.reduceAdd]
            repeat (go_big_quiet_step (fail))
            refine wpQuiet_nil ?_
            refine wpC_nil ?_
            have HS := Lib.hid (show Below w4.heap.size w4 w5 from HJ2.out.trans ((belowN (Below.refl wr.heap.size wr) 1).trans HB5.out |>.mono HJ2.out.size))
            clear hf0 hf1 hf2 hf30 hf31 hX1 H0 H5 HFc HIs
            go_wp2_with fail
            go_roundw
            case rel => exact ⟨q + 1, by omega, by go_num, HS⟩
            case measure => simp [intOf]; omega
        · obtain rfl : q = n + 70 := by omega
          have HS := Lib.hid (show Below w.heap.size w wr from HX.out.2.2.2.trans (hJ.out.mono HX.out.2.2.2.size))
          have hdq : decide (((n + 70 : Nat) : Int) < ((n + 70 : Nat) : Int)) = false := decide_eq_false (by omega)
          clear hJ hh
          go_wp2_with fail
          go_roundw
          case rel => exact ⟨k + 1, by omega, by go_num, HS⟩
          case measure => simp [intOf]; omega
    · obtain rfl : k = N := by omega
      have HS := Lib.hid hI.out
      clear hI
      go_wp2_with fail
      go_ret
      exact ⟨rfl, HS.out⟩
end Go.Proofs.YtmaemgihhipllaaGreatDoor

/- The book: keepPair. (Printed by gen_bkp7.py.) -/
namespace Go.Proofs.YtmaemgihhipllaaGreatDoor
set_option linter.unusedVariables false
set_option linter.unusedSimpArgs false
open Go.RowKit
theorem info_heldPair : (Tryz.prog.info? 106).map (fun i => (i.zero, i.size, i.bytes)) = some (some (.agg #[.slice none 0 0, .slice none 0 0, .int .i64 0]), 3, 56) := by kernel_rfl
set_option maxHeartbeats 3200000 in
set_option maxRecDepth 100000 in
theorem keepPair_any {w : World} {b c : Nat} {cs : Array Value} {tv : Value} {E : List Held} (hb : w.heap[b]? = some (.cells cs 35 (0, 0))) (h0 : cs[0]? = some (.int .i64 (c : Int))) (hI : cs[4]? = some tv)
    (hrow : SliceN w 0 106 3 tv E.length (heldC E)) (hbt : vblock tv ≠ some b) (hc : c ≤ 1000000) (hE : E.length ≤ 1000000) (a : Option Addr) (n cap : Nat) :
    Calls Tryz.prog 61 #[bkp b, .slice a n cap] w fun e w' => (∃ v, e = .returned v) ∧ Kept w b 4 106 cs c tv E (.slice a n cap) n w' := by
  obtain ⟨ta, tc, rfl, htc, _⟩ := hrow.form
  obtain ⟨N, hN⟩ : ∃ N, N = E.length := ⟨_, rfl⟩
  have x0 := cell_in hb h0
  have f0 := frozen_in hb 0
  obtain ⟨w1, hw1⟩ : ∃ w1, w1 = w.setCell ⟨b, 0, none⟩ (.int .i64 ((c : Int) + 1)) := ⟨_, rfl⟩
  have hb1 : w1.heap[b]? = some (.cells (cs.setIfInBounds 0 (.int .i64 ((c : Int) + 1))) 35 (0, 0)) := by rw [hw1]; exact setCell_head hb 0 _
  have hc1 : Chg (fun k => k = b) w w1 := by rw [hw1]; exact Chg.setCell _ _ _ _ rfl
  have hrow1 := hrow.chg hc1 fun k hk e => hbt (by rw [← e]; exact hk)
  have hs0 : 0 < cs.size := (Array.getElem?_eq_some_iff.1 h0).1
  have h01 : (cs.setIfInBounds 0 (.int .i64 ((c : Int) + 1)))[0]? = some (.int .i64 ((c : Int) + 1)) := by simp [hs0]
  have h31 : (cs.setIfInBounds 0 (.int .i64 ((c : Int) + 1)))[4]? = some (.slice ta E.length tc) := by
    rw [Array.getElem?_setIfInBounds, if_neg (by omega)]; exact hI
  rw [← hN] at h31
  -- the append
  have hd1 : Below w1.heap.size w1 w1.drew := belowN (Below.refl _ _) 1
  obtain ⟨i0, k1, k2, k3, k4⟩ := info_parts info_heldPair
  obtain ⟨v3, w3, hr, s3, c3, hvb3⟩ := run_append_oneN (P := Tryz.prog) (t := 28) (ty := 28) Tryz.underlying28 k1 k2 k3 k4 rfl (hrow1.below hd1) (Nat.zero_le _) [.slice a n cap, .slice none 0 0, .int .i64 ((c : Int) + 1)] rfl (by simp [Value.oneCell']) (by unfold maxLen; omega) (by omega)
  obtain ⟨a3, cc3, rfl, _, _⟩ := s3.form
  have hnb : ¬ vblock (.slice ta E.length tc) = some b := hbt
  have hb3 : w3.heap[b]? = some (.cells (cs.setIfInBounds 0 (.int .i64 ((c : Int) + 1))) 35 (0, 0)) := c3.keep (show w1.drew.heap[b]? = _ from hb1) hnb
  obtain ⟨w4, hw4⟩ : ∃ w4, w4 = w3.setCell ⟨b, 4, none⟩ (.slice a3 (N + 1) cc3) := ⟨_, rfl⟩
  have hb4 := setCell_head hb3 4 (.slice a3 (N + 1) cc3)
  rw [← hw4] at hb4
  have hbl : b < w.heap.size := heap_lt hb
  have hsz1 : w.heap.size ≤ w1.drew.heap.size := hc1.size
  have HE := Lib.hid (show Kept w b 4 106 cs c (.slice ta E.length tc) E (.slice a n cap) n w4 from by
    have hc4 : Chg (fun k => k = b) w3 w4 := by rw [hw4]; exact Chg.setCell _ _ _ _ rfl
    refine ⟨.slice a3 (N + 1) cc3, hb4, ?_, ?_, ?_⟩
    · rw [heldC_snoc, List.length_append, List.length_singleton]
      rw [hN]
      refine s3.chg hc4 fun k hk e => ?_
      rcases hvb3 with h | ⟨x, h, hx⟩
      · rw [h] at hk; exact hbt (by rw [← e]; exact hk)
      · rw [h] at hk; cases hk; omega
    · rcases hvb3 with h | ⟨x, h, hx⟩
      · rw [hN]; exact .inl h
      · exact .inr ⟨x, by rw [hN]; exact h, by omega⟩
    · refine ((hc1.mono fun k hk _ => .inl hk).trans ((Chg.drew _ w1).trans c3 fun k hk _ => hk) fun k hk _ => .inr hk).trans hc4 fun k hk _ => .inl hk)
  obtain ⟨W1, hW1⟩ : ∃ W1, W1 = (w1.alloc (.cells #[.slice a n cap, .slice none 0 0, .int .i64 ((c : Int) + 1)] 106)).drew := ⟨_, rfl⟩
  have hbW : W1.heap[b]? = some (.cells (cs.setIfInBounds 0 (.int .i64 ((c : Int) + 1))) 35 (0, 0)) := by rw [hW1]; exact heap_old (show w1.heap[b]? = _ from hb1) _
  obtain ⟨X1, f, hX1, hff, hF⟩ := classOf (fun y => y.cell? ⟨b, 0, none⟩ = some (.int .i64 ((c : Int) + 1)) ∧ y.cell? ⟨b, 4, none⟩ = some (.slice ta N tc)) (w := w1.drew) ⟨cell_in (show w1.drew.heap[b]? = _ from hb1) h01, cell_in (show w1.drew.heap[b]? = _ from hb1) h31⟩
  have hf0 := fun x => (hff x).1
  have hf3 := fun x => (hff x).2
  have H0 := Lib.hid (hF w1.drew ⟨cell_in (show w1.drew.heap[b]? = _ from hb1) h01, cell_in (show w1.drew.heap[b]? = _ from hb1) h31⟩)
  have H1 := Lib.hid (hF W1 ⟨cell_in hbW h01, cell_in hbW h31⟩)
  have hr : (Builtin.append_ #[28, 28] 28 #[.slice ta N tc, .slice (some ⟨w1.heap.size, 0, none⟩) 1 1]).run Tryz.prog W1 = .ok (.slice a3 (N + 1) cc3) w3 := by rw [hW1, hN]; exact hr
  have HR := Lib.hid hr
  have q3 := cell_in hb3 h31
  have qf := frozen_in hb3 4
  have HW1 := Lib.hid hw1
  have HWa := Lib.hid hW1
  have HW4 := Lib.hid hw4
  clear hb h0 hI hrow hbt hw1 hb1 hc1 hrow1 h01 h31 hd1 hr s3 c3 hvb3 hnb hb3 hw4 hb4 hW1 hbW hff hF k1 k2 k3 k4 hN hE hs0
  go_enter Tryz.func61, Tryz.ntmps61
  go_wp2_with fail
  rw [← HW1.out]
  refine wp_region_text ⟨[11, 12, 15], [0, 13, 14], 12⟩ (fun w' => ∃ x : X1, w' = f x) (by kernel_rfl) (by kernel_rfl) H0.out ?_
  refine wpC_seg true (H0.out) 1 0 _ _ (by rfl) (by rfl) ?_
  simp only [List.take_succ_cons, List.take_zero, List.drop_succ_cons, List.drop_zero, if_true, Nat.zero_add, Nat.reduceAdd]
  repeat (go_big_quiet_step (fail))
  refine wpQuiet_nil ?_
  refine wpC_seg false (H0.out) 10 1 _ _ (by rfl) (by rfl) ?_
  simp only [List.take_succ_cons, List.take_zero, List.drop_succ_cons, List.drop_zero, Bool.false_eq_true, if_false, Nat.zero_add, Nat.reduceAdd]
  repeat (go_big_quiet_step (fail))
  refine wpQuiet_nil ?_
  refine wpC_loud (by rfl) (by rfl) fun K hK => ?_
  go_wp2_with fail
  rw [← HWa.out]
  refine hK _ _ (fun _ => H1.out) ?_
  clear hK
  refine wpC_value (by rfl) (by rfl) (exec_append rfl HR.out) (fun h => absurd h (by decide)) ?_
  simp only [Act.put, List.setIfInBounds_toArray, List.set_cons_succ, List.set_cons_zero]
  refine wpC_segD 2 13 _ _ (by rfl) (by rfl) ?_
  simp only [List.take_succ_cons, List.take_zero, List.drop_succ_cons, List.drop_zero, if_true, Nat.zero_add, Nat.reduceAdd]
  repeat (go_big_quiet_step (fail))
  refine wpQuiet_nil ?_
  clear hf0 hf3 H0 H1
  refine wpC_loud (by rfl) (by rfl) fun K hK => ?_
  go_wp2_with fail
  rw [← HW4.out]
  refine hK _ _ (fun h => absurd h (by decide)) ?_
  clear hK
  refine wpC_nil ?_
  go_wp2_with fail
  go_end0
  exact ⟨⟨_, rfl⟩, HE.out⟩
end Go.Proofs.YtmaemgihhipllaaGreatDoor

/- The book: fillEntry. (Printed by gen_bke3.py.) -/
namespace Go.Proofs.YtmaemgihhipllaaGreatDoor
set_option linter.unusedVariables false
set_option linter.unusedSimpArgs false
open Go.RowKit
abbrev markE (m : Nat) : List Value := [.int .u64 ((m : Int) + 99000), .int .u64 0, .slice none 0 0]
set_option maxHeartbeats 3200000 in
set_option maxRecDepth 100000 in
theorem fillEntry_any {w0 w : World} (hB : Base w0 w) {b : Nat} {tv : Value} {E : List Held} (h : Holds w b 6 81 50 3 tv E) (hE : ∀ k, blocksV E k → w0.heap.size ≤ k) (hg : ∀ h ∈ E, h.g = .slice none 0 0) :
    Calls Tryz.prog 27 #[bkp b] w fun e w' => (∃ v, e = .returned v) ∧ (∀ h ∈ E, SliceN w' 0 50 3 h.v h.n (rep h.n (markE h.m))) ∧ Chg (blocksV E) w w' := by
  obtain ⟨N, hN⟩ : ∃ N, N = E.length := ⟨_, rfl⟩
  obtain ⟨ta, tc, rfl, htc, _⟩ := h.row.form
  rw [← hN] at htc
  have hN6 : N ≤ 1000000 := by have := h.few; omega
  have HH := Lib.hid h
  have HB := Lib.hid hB
  have HE := Lib.hid hE
  have HG := Lib.hid hg
  have HN := Lib.hid hN
  obtain ⟨cs, hcs, hci⟩ := h.head
  rw [← hN] at hci
  have HCs := Lib.hid (And.intro hcs hci)
  have x0 := cell_in hcs hci
  clear h hB hE hg hN hcs hci
  go_enter Tryz.func27, Tryz.ntmps27
  go_wp2_with fail
  go_loopw [2] (fun i wr => ∃ k : Nat, k ≤ N ∧ i = .int .i64 k ∧ Hid ((∀ j (hj : j < E.length), (j < k → SliceN wr 0 50 3 E[j].v E[j].n (rep E[j].n (markE E[j].m))) ∧ ∃ xs, SliceN wr 0 50 3 E[j].v E[j].n xs) ∧ Chg (blocksV E) w wr)) (fun i _ => N - (intOf i).toNat)
  case atStart => exact ⟨0, Nat.zero_le _, rfl, Lib.hid ⟨fun j hj => ⟨fun h => absurd h (by omega), HH.out.got _ (List.getElem_mem hj)⟩, Chg.refl _ _⟩⟩
  case round =>
    obtain ⟨k, hk, rfl, hI⟩ := hrel
    obtain ⟨wo, rfl⟩ : ∃ wo, wo = wr := ⟨_, rfl⟩
    have hcb : wo.heap[b]? = some (.cells cs 35 (0, 0)) := hI.out.2.keep HCs.out.1 fun ⟨h, hh, e⟩ => HH.out.offb h hh e
    have xr := cell_in hcb HCs.out.2
    by_cases hlt : k < N
    · have hkE : k < E.length := by rw [← HN.out]; exact hlt
      obtain ⟨v0, hv0⟩ : ∃ v0, v0 = E[k].v := ⟨_, rfl⟩
      obtain ⟨n, hn⟩ : ∃ n, n = E[k].n := ⟨_, rfl⟩
      obtain ⟨m, hm⟩ : ∃ m, m = E[k].m := ⟨_, rfl⟩
      have hmem : E[k] ∈ E := List.getElem_mem hkE
      have hsm := HH.out.small _ hmem
      rw [← hn, ← hm] at hsm
      obtain ⟨hn9, hm9⟩ := hsm
      obtain ⟨xs, hxs⟩ := (hI.out.1 k hkE).2
      rw [← hv0, ← hn] at hxs
      obtain ⟨va, vc, rfl, hvc, _⟩ := hxs.form
      have hrow := HH.out.row.chg hI.out.2 fun j hj ⟨h, hh, e⟩ => HH.out.offt h hh j e hj
      rw [← HN.out] at hrow
      obtain ⟨tg, hta⟩ : ∃ tg, ta = some ⟨tg, 0, none⟩ := by
        rcases hrow.2 with ⟨e, hz⟩ | ⟨g, cap, cur, e, _⟩
        · omega
        · cases e; exact ⟨g, rfl⟩
      subst hta
      obtain ⟨g1, g2, g3⟩ := heldC_get hkE
      have y0 := hrow.cell rfl (i := k * 3) (by omega)
      have y1 := hrow.cell rfl (i := k * 3 + 1) (by omega)
      have y2 := hrow.cell rfl (i := k * 3 + 2) (by omega)
      rw [g1, ← hv0] at y0
      rw [g2, HG.out _ hmem] at y1
      rw [g3, ← hm] at y2
      obtain ⟨w4, hw4⟩ : ∃ w4, w4 = wo.alloc (.cells #[.slice va n vc, .slice none 0 0, .int .i64 m] 81) := ⟨_, rfl⟩
      have hb4 : w4.heap[wo.heap.size]? = some (.cells #[.slice va n vc, .slice none 0 0, .int .i64 m] 81 (0, 0)) := by rw [hw4]; exact heap_new _ _
      have hbl4 : Below wo.heap.size wo w4 := by rw [hw4]; exact (Below.refl _ _).alloc (Nat.le_refl _) _
      have z0 := cell_in hb4 (i := 0) rfl
      have hbv : ∀ j, vblock (.slice va n vc) = some j → blocksV E j := fun j hj => ⟨E[k], hmem, by rw [← hv0]; exact hj⟩
      have HX := Lib.hid (show SliceN w4 0 50 3 (.slice va n vc) n xs ∧ (∀ j, vblock (.slice va n vc) = some j → j < wo.heap.size) ∧ Base w0 w4 from ⟨hxs.below hbl4, fun j hj => (hxs.block_lt hj).2, (HB.out.chg hI.out.2 HE.out).below hbl4⟩)
      have HBv := Lib.hid (And.intro hbv (And.intro hb4 hbl4))
      have HE3 := Lib.hid (And.intro hv0 (And.intro hn hm))
      have HW4 := Lib.hid hw4
      clear hxs hrow g1 g2 g3 hv0 hn hm hw4 hb4 hbl4 hbv hmem
      go_wp2_with fail
      rw [← HW4.out]
      go_loopw [4] (fun j wq => ∃ q : Nat, q ≤ n ∧ j = .int .i64 q ∧ Hid ((∃ ys, SliceN wq 0 50 3 (.slice va n vc) n (rep q (markE m) ++ ys)) ∧ Chg (fun x => vblock (.slice va n vc) = some x) w4 wq)) (fun j _ => n - (intOf j).toNat)
      case atStart => exact ⟨0, Nat.zero_le _, rfl, Lib.hid ⟨⟨xs, HX.out.1⟩, Chg.refl _ _⟩⟩
      case round =>
        obtain ⟨q, hq, rfl, hJ⟩ := hrel
        obtain ⟨⟨ys, hys⟩, hC⟩ := hJ.out
        have hB2 := HX.out.2.2.chg hC fun j hj => HE.out j (HBv.out.1 j hj)
        have hbd : Below wr.heap.size wr wr.drew := belowN (Below.refl _ _) 1
        have hh : wr.heap[wo.heap.size]? = some (.cells #[.slice va n vc, .slice none 0 0, .int .i64 m] 81 (0, 0)) := hC.keep HBv.out.2.1 fun e => by have := HX.out.2.1 _ e; omega
        have c0 := cell_in hh (i := 0) rfl
        have c2 := cell_in hh (i := 2) rfl
        by_cases hlq : q < n
        · have hd0 : wr.drew.cell? ⟨wo.heap.size, 0, none⟩ = some (.slice va n vc) := c0
          have hd2 : wr.drew.cell? ⟨wo.heap.size, 2, none⟩ = some (.int .i64 m) := c2
          obtain ⟨X1, f, hX1, hff, hF⟩ := classOf (fun y => y.cell? ⟨wo.heap.size, 0, none⟩ = some (.slice va n vc) ∧ y.cell? ⟨wo.heap.size, 2, none⟩ = some (.int .i64 m)) (w := wr.drew) ⟨hd0, hd2⟩
          have hf0 := fun x => (hff x).1
          have hf2 := fun x => (hff x).2
          have H0 := Lib.hid (hF wr.drew ⟨hd0, hd2⟩)
          have HM := Lib.hid (markEntry_any (w := wr.drew) m hm9)
          have HJ2 := Lib.hid (And.intro hys (And.intro hC (And.intro hB2 hh)))
          have HFc := Lib.hid hF
          clear hJ hys hC hB2 hh hff hF hd0 hd2
          go_wp2_with fail
          refine wp_region_text ⟨[5, 7], [], 7⟩ (fun w' => ∃ x : X1, w' = f x) (by kernel_rfl) (by kernel_rfl) H0.out ?_
          refine wpC_seg false (H0.out) 5 0 _ _ (by rfl) (by rfl) ?_
          simp only [List.take_succ_cons, List.take_zero, List.drop_succ_cons, List.drop_zero, Bool.false_eq_true, if_false, Nat.zero_add, Nat.reduceAdd]
          repeat (go_big_quiet_step (fail))
          refine wpQuiet_nil ?_
          refine wpC_loud (by rfl) (by rfl) fun K hK => ?_
          go_wp2_with fail
          refine HM.out.mono ?_
          rintro e w5 ⟨rfl, b5⟩
          have hb5 : Below wr.heap.size wr w5 := hbd.trans b5
          obtain ⟨g, cap, cur, ev, hrow5, hroom, hs6⟩ := (HJ2.out.1.below hb5).write hlq (markE m) rfl
          cases ev
          have hh5 : w5.heap[wo.heap.size]? = some (.cells #[.slice (some ⟨g, 0, none⟩) n vc, .slice none 0 0, .int .i64 m] 81 (0, 0)) := (Chg.of_below (fun _ => False) hb5).keep HJ2.out.2.2.2 id
          have H5 := Lib.hid (HFc.out w5 ⟨cell_in hh5 (i := 0) rfl, cell_in hh5 (i := 2) rfl⟩)
          obtain ⟨w6, hw6⟩ : ∃ w6, w6 = (((w5.setCell ⟨g, q * 3, none⟩ (.int .u64 ((m : Int) + 99000))).setCell ⟨g, q * 3 + 1, none⟩ (.int .u64 0)).setCell ⟨g, q * 3 + 2, none⟩ (.slice none 0 0)) := ⟨_, rfl⟩
          obtain ⟨wc1, hwc1⟩ : ∃ wc, wc = (w5.setCell ⟨g, q * 3, none⟩ (.int .u64 ((m : Int) + 99000))) := ⟨_, rfl⟩
          obtain ⟨wc2, hwc2⟩ : ∃ wc, wc = ((w5.setCell ⟨g, q * 3, none⟩ (.int .u64 ((m : Int) + 99000))).setCell ⟨g, q * 3 + 1, none⟩ (.int .u64 0)) := ⟨_, rfl⟩
          obtain ⟨wc3, hwc3⟩ : ∃ wc, wc = (((w5.setCell ⟨g, q * 3, none⟩ (.int .u64 ((m : Int) + 99000))).setCell ⟨g, q * 3 + 1, none⟩ (.int .u64 0)).setCell ⟨g, q * 3 + 2, none⟩ (.slice none 0 0)) := ⟨_, rfl⟩
          have x50 : w5.cell? ⟨g, q * 3, none⟩ = some (cur.getD (q * 3) undef) := hrow5.cell (by rw [Array.getD_eq_getD_getElem?, Array.getElem?_eq_getElem (by first | omega | (simp; omega))]; rfl)
          have f50 := hrow5.free (i := q * 3) (by first | omega | (simp; omega))
          have ec1 : wc1 = w5.setRow g (cur.setIfInBounds (q * 3) (.int .u64 ((m : Int) + 99000))) := by rw [hwc1, hrow5.setCell]
          have hrc1 : RowAt wc1 g 50 (cur.setIfInBounds (q * 3) (.int .u64 ((m : Int) + 99000))) := by rw [ec1]; exact hrow5.setRow (by simp)
          have x51 : wc1.cell? ⟨g, q * 3 + 1, none⟩ = some ((cur.setIfInBounds (q * 3) (.int .u64 ((m : Int) + 99000))).getD (q * 3 + 1) undef) := hrc1.cell (by rw [Array.getD_eq_getD_getElem?, Array.getElem?_eq_getElem (by first | omega | (simp; omega))]; rfl)
          have f51 := hrc1.free (i := q * 3 + 1) (by first | omega | (simp; omega))
          have ec2 : wc2 = w5.setRow g ((cur.setIfInBounds (q * 3) (.int .u64 ((m : Int) + 99000))).setIfInBounds (q * 3 + 1) (.int .u64 0)) := by rw [hwc2, ← hwc1, hrc1.setCell, ec1, setRow_setRow]
          have hrc2 : RowAt wc2 g 50 ((cur.setIfInBounds (q * 3) (.int .u64 ((m : Int) + 99000))).setIfInBounds (q * 3 + 1) (.int .u64 0)) := by rw [ec2]; exact hrow5.setRow (by simp)
          have x52 : wc2.cell? ⟨g, q * 3 + 2, none⟩ = some (((cur.setIfInBounds (q * 3) (.int .u64 ((m : Int) + 99000))).setIfInBounds (q * 3 + 1) (.int .u64 0)).getD (q * 3 + 2) undef) := hrc2.cell (by rw [Array.getD_eq_getD_getElem?, Array.getElem?_eq_getElem (by first | omega | (simp; omega))]; rfl)
          have f52 := hrc2.free (i := q * 3 + 2) (by first | omega | (simp; omega))
          have ec3 : wc3 = w5.setRow g (((cur.setIfInBounds (q * 3) (.int .u64 ((m : Int) + 99000))).setIfInBounds (q * 3 + 1) (.int .u64 0)).setIfInBounds (q * 3 + 2) (.slice none 0 0)) := by rw [hwc3, ← hwc2, hrc2.setCell, ec2, setRow_setRow]
          have hrc3 : RowAt wc3 g 50 (((cur.setIfInBounds (q * 3) (.int .u64 ((m : Int) + 99000))).setIfInBounds (q * 3 + 1) (.int .u64 0)).setIfInBounds (q * 3 + 2) (.slice none 0 0)) := by rw [ec3]; exact hrow5.setRow (by simp)
          have e6 : w6 = w5.setRow g (wrs cur (q * 3) (markE m)) := by rw [hw6, ← hwc3, ec3]; rfl
          have hc56 : Chg (fun x => vblock (.slice (some ⟨g, 0, none⟩) n vc) = some x) w5 w6 := by rw [hw6]; exact ((Chg.setCell (fun x => vblock (.slice (some ⟨g, 0, none⟩) n vc) = some x) w5 ⟨g, q * 3, none⟩ _ rfl).trans (Chg.setCell (fun x => vblock (.slice (some ⟨g, 0, none⟩) n vc) = some x) _ ⟨g, q * 3 + 1, none⟩ _ rfl) fun _ h _ => h).trans (Chg.setCell (fun x => vblock (.slice (some ⟨g, 0, none⟩) n vc) = some x) _ ⟨g, q * 3 + 2, none⟩ _ rfl) fun _ h _ => h
          rw [hwc1] at x51 f51
          rw [hwc2] at x52 f52
          have HS := Lib.hid (show (∃ ys, SliceN w6 0 50 3 (.slice (some ⟨g, 0, none⟩) n vc) n (rep (q + 1) (markE m) ++ ys)) ∧ Chg (fun x => vblock (.slice (some ⟨g, 0, none⟩) n vc) = some x) w4 w6 from by
            refine ⟨⟨ys.drop 3, ?_⟩, ?_⟩
            · rw [← e6] at hs6
              have hl := rep_length q (markE m)
              have e : (rep q (markE m) ++ ys).take (q * 3) ++ markE m ++ (rep q (markE m) ++ ys).drop (q * 3 + 3) = rep (q + 1) (markE m) ++ ys.drop 3 := by
                have hl2 : (rep q (markE m)).length = q * 3 := hl
                rw [rep_succ, List.take_left' hl2, ← List.drop_drop, List.drop_left' hl2]
              rw [e] at hs6
              exact hs6
            · exact (HJ2.out.2.1.trans (Chg.of_below _ hb5) fun j hj _ => hj).trans hc56 fun j hj _ => hj)
          have HW6 := Lib.hid hw6
          clear hs6 hw6 e6 b5 hb5 hh5 hc56 hrc1 hrc2 hrc3 ec1 ec2 ec3 hwc1 hwc2 hwc3 wc1 wc2 wc3 hrow5
          refine hK _ _ (fun _ => H5.out) ?_
          clear hK
          refine wpC_seg false (H5.out) 1 6 _ _ (by rfl) (by rfl) ?_
          simp only [List.take_succ_cons, List.take_zero, List.drop_succ_cons, List.drop_zero, Bool.false_eq_true, if_false, Nat.zero_add, Nat.reduceAdd]
          repeat (go_big_quiet_step (fail))
          refine wpQuiet_nil ?_
          refine wpC_loud (by rfl) (by rfl) fun K hK => ?_
          go_wp2_with fail
          rw [← HW6.out]
          refine hK _ _ (fun h => absurd h (by decide)) ?_
          clear hK
          refine wpC_nil ?_
          clear hf0 hf2 hX1 H0 H5
          go_wp2_with fail
          go_roundw
          case rel => exact ⟨q + 1, by omega, by go_num, HS⟩
          case measure => simp [intOf]; omega
        · obtain rfl : q = n := by omega
          have HS := Lib.hid (show (∀ j (hj : j < E.length), (j < k + 1 → SliceN wr 0 50 3 E[j].v E[j].n (rep E[j].n (markE E[j].m))) ∧ ∃ xs, SliceN wr 0 50 3 E[j].v E[j].n xs) ∧ Chg (blocksV E) w wr by
            obtain ⟨hv0, hn, hm⟩ := HE3.out
            have hyl : ys = [] := by
              have h1 := hys.1
              have h2 := rep_length q (markE m)
              rw [List.length_append, h2] at h1
              exact List.eq_nil_of_length_eq_zero (by have : q * (markE m).length = q * 3 := rfl; omega)
            rw [hyl, List.append_nil] at hys
            have hcw : Chg (fun x => vblock (.slice va q vc) = some x) wo wr := (Chg.of_below _ HBv.out.2.2).trans hC fun j hj _ => hj
            refine ⟨fun j hj => ?_, hI.out.2.trans hcw fun j hj _ => HBv.out.1 j hj⟩
            by_cases hjk : j = k
            · subst hjk
              rw [← hv0, ← hn, ← hm]
              exact ⟨fun _ => hys, _, hys⟩
            · obtain ⟨h1, ⟨xs1, h2⟩⟩ := hI.out.1 j hj
              have hap : ∀ x, vblock E[j].v = some x → ¬ vblock (.slice va q vc) = some x := fun x hx hy => HH.out.apart j k hj hkE hjk x hx (by rw [← hv0]; exact hy)
              exact ⟨fun hlt2 => (h1 (by omega)).chg hcw hap, xs1, h2.chg hcw hap⟩)
          clear hJ hys hC hB2 hh
          go_wp2_with fail
          go_roundw
          case rel => exact ⟨k + 1, by omega, by go_num, HS⟩
          case measure => simp [intOf]; omega
    · obtain rfl : k = N := by omega
      have HS := Lib.hid (show (∀ h ∈ E, SliceN wo 0 50 3 h.v h.n (rep h.n (markE h.m))) ∧ Chg (blocksV E) w wo from
        ⟨fun h hh => by
          obtain ⟨j, hj, rfl⟩ := List.getElem_of_mem hh
          exact (hI.out.1 j hj).1 (by rw [HN.out]; exact hj), hI.out.2⟩)
      clear hI
      go_wp2_with fail
      go_end0
      exact ⟨⟨_, rfl⟩, HS.out⟩
end Go.Proofs.YtmaemgihhipllaaGreatDoor

/- The book: growEntry. (Printed by gen_bkp5.py.) -/
namespace Go.Proofs.YtmaemgihhipllaaGreatDoor
set_option linter.unusedVariables false
set_option linter.unusedSimpArgs false
open Go.RowKit
theorem info_entryB : (Tryz.prog.info? 50).map (fun i => (i.zero, i.size, i.bytes)) = some (some (.agg #[.int .u64 0, .int .u64 0, .slice none 0 0]), 3, 40) := by kernel_rfl
set_option maxHeartbeats 6400000 in
set_option maxRecDepth 100000 in
theorem growEntry_any {w0 w : World} (hB : Base w0 w) {b : Nat} {tv : Value} {E : List Held} (h : Holds w b 6 81 50 3 tv E) (hE : ∀ k, blocksV E k → w0.heap.size ≤ k) (hg : ∀ h ∈ E, h.g = .slice none 0 0)
    (hm : ∀ h ∈ E, SliceN w 0 50 3 h.v h.n (rep h.n (markE h.m))) (htv : ∀ k, vblock tv = some k → w0.heap.size ≤ k) (hbt : vblock tv ≠ some b) :
    Calls Tryz.prog 36 #[bkp b] w fun e w' => (∃ v, e = .returned v) ∧ (∃ E', Grown w' b 6 81 3 markE tv E' ∧ Agree E E' ∧ ∀ h ∈ E', vblock h.g = vblock h.v ∨ ∃ x, vblock h.g = some x ∧ w.heap.size ≤ x) ∧ Chg (fun x => blocksV E x ∨ vblock tv = some x) w w' := by
  obtain ⟨N, hN⟩ : ∃ N, N = E.length := ⟨_, rfl⟩
  obtain ⟨ta, tc, rfl, htc, _⟩ := h.row.form
  rw [← hN] at htc
  have hN6 : N ≤ 1000000 := by have := h.few; omega
  have HH := Lib.hid h
  have HB := Lib.hid hB
  have HE := Lib.hid (And.intro hE htv)
  have HM := Lib.hid hm
  have HN := Lib.hid hN
  have HBt := Lib.hid hbt
  have HLt := Lib.hid (show ∀ x, blocksV E x ∨ vblock (.slice ta E.length tc) = some x → x < w.heap.size by
    rintro x (⟨h1, hh, e⟩ | hx)
    · exact ((hm h1 hh).block_lt e).2
    · exact (h.row.block_lt hx).2)
  obtain ⟨cs, hcs, hci⟩ := h.head
  have hcsb : ¬ (blocksV E b ∨ vblock (.slice ta E.length tc) = some b) := by
    rintro (⟨h1, hh, e⟩ | hx)
    · exact h.offb h1 hh e
    · exact hbt hx
  rw [← hN] at hci
  have HCs := Lib.hid (And.intro hcs (And.intro hci hcsb))
  have HS0 := Lib.hid (show Grew w0 w 50 81 3 markE (.slice ta E.length tc) E E 0 w from ⟨Agree.refl E, h.row, fun _ _ _ h => by omega, fun j h1 _ _ => ⟨hg _ (List.getElem_mem h1), hm _ (List.getElem_mem h1)⟩, Chg.refl _ _⟩)
  clear h hB hE hg hm htv hN hcs hci hbt hcsb
  go_enter Tryz.func36, Tryz.ntmps36
  go_wp2_with fail
  go_loopw [2] (fun i wr => ∃ k : Nat, k ≤ N ∧ i = .int .i64 k ∧ Hid (∃ E', Grew w0 w 50 81 3 markE (.slice ta E.length tc) E E' k wr)) (fun i _ => N - (intOf i).toNat)
  case atStart => exact ⟨0, Nat.zero_le _, rfl, Lib.hid ⟨E, HS0.out⟩⟩
  case round =>
    obtain ⟨k, hk, rfl, hI⟩ := hrel
    obtain ⟨wo, rfl⟩ : ∃ wo, wo = wr := ⟨_, rfl⟩
    obtain ⟨E', hE'⟩ := hI.out
    have hcb : wo.heap[b]? = some (.cells cs 35 (0, 0)) := hE'.chg.keep HCs.out.1 HCs.out.2.2
    have xr := cell_in hcb HCs.out.2.1
    by_cases hlt : k < N
    · have hkE : k < E.length := by rw [← HN.out]; exact hlt
      have hkE' : k < E'.length := by rw [hE'.agree.1]; exact hkE
      obtain ⟨v0, hv0⟩ : ∃ v0, v0 = E[k].v := ⟨_, rfl⟩
      obtain ⟨n, hn⟩ : ∃ n, n = E[k].n := ⟨_, rfl⟩
      obtain ⟨m, hm⟩ : ∃ m, m = E[k].m := ⟨_, rfl⟩
      have hmem : E[k] ∈ E := List.getElem_mem hkE
      have hsm := HH.out.small _ hmem
      rw [← hn, ← hm] at hsm
      obtain ⟨hn9, hm9⟩ := hsm
      obtain ⟨hgn, hxs⟩ := hE'.new k hkE hkE' (Nat.le_refl _)
      rw [← hv0, ← hn, ← hm] at hxs
      obtain ⟨va, vc, rfl, hvc, _⟩ := hxs.form
      have hrow := hE'.row
      rw [hE'.agree.1, ← HN.out] at hrow
      obtain ⟨tg, hta⟩ : ∃ tg, ta = some ⟨tg, 0, none⟩ := by
        rcases HS0.out.row.2 with ⟨e, hz⟩ | ⟨g, cap, cur, e, _⟩
        · omega
        · cases e; exact ⟨g, rfl⟩
      subst hta
      obtain ⟨g1, g2, g3⟩ := heldC_get hkE'
      obtain ⟨a1, a2, a3⟩ := hE'.agree.2 k hkE hkE'
      have y0 := hrow.cell rfl (i := k * 3) (by omega)
      have y1 := hrow.cell rfl (i := k * 3 + 1) (by omega)
      have y2 := hrow.cell rfl (i := k * 3 + 2) (by omega)
      rw [g1, a1, ← hv0] at y0
      rw [g2, hgn] at y1
      rw [g3, a3, ← hm] at y2
      obtain ⟨w4, hw4⟩ : ∃ w4, w4 = wo.alloc (.cells #[.slice va n vc, .slice none 0 0, .int .i64 m] 81) := ⟨_, rfl⟩
      have hb4 : w4.heap[wo.heap.size]? = some (.cells #[.slice va n vc, .slice none 0 0, .int .i64 m] 81 (0, 0)) := by rw [hw4]; exact heap_new _ _
      have hbl4 : Below wo.heap.size wo w4 := by rw [hw4]; exact (Below.refl _ _).alloc (Nat.le_refl _) _
      have z0 := cell_in hb4 (i := 0) rfl
      have hbv : ∀ j, vblock (.slice va n vc) = some j → blocksV E j := fun j hj => ⟨E[k], hmem, by rw [← hv0]; exact hj⟩
      have hbo : ∀ x, blocksV E x ∨ vblock (.slice (some ⟨tg, 0, none⟩) E.length tc) = some x → w0.heap.size ≤ x := fun x hx => hx.elim (HE.out.1 x) (HE.out.2 x)
      have HX := Lib.hid (show SliceN w4 0 50 3 (.slice va n vc) n (rep n (markE m)) ∧ (∀ j, vblock (.slice va n vc) = some j → j < w.heap.size) ∧ Base w0 w4 from ⟨hxs.below hbl4, fun j hj => HLt.out j (.inl (hbv j hj)), (HB.out.chg hE'.chg hbo).below hbl4⟩)
      have HBv := Lib.hid (And.intro hbv (And.intro hb4 (And.intro hbl4 hcb)))
      have HE3 := Lib.hid (And.intro hv0 (And.intro hn (And.intro hm (And.intro hE' (And.intro hkE hkE')))))
      have HW4 := Lib.hid hw4
      have hws : w.heap.size ≤ wo.heap.size := hE'.chg.size
      clear hxs hrow g1 g2 g3 hv0 hn hm hw4 hb4 hbl4 hbv hmem a1 a2 a3 hgn hcb hE' hbo
      go_wp2_with fail
      rw [← HW4.out]
      go_loopw [4, 5] (fun lv j wq => ∃ q : Nat, q ≤ 70 ∧ j = .int .i64 q ∧ Hid (SliceN wq 0 50 3 lv (n + q) (rep (n + q) (markE m)) ∧ Reads wq 3 (.slice va n vc) n (rep n (markE m)) ∧ Chg (fun x => vblock (.slice va n vc) = some x) w4 wq ∧ (vblock lv = vblock (.slice va n vc) ∨ ∃ x, vblock lv = some x ∧ wo.heap.size ≤ x))) (fun _ j _ => 70 - (intOf j).toNat)
      case atStart => exact ⟨0, Nat.zero_le _, rfl, Lib.hid ⟨HX.out.1, HX.out.1.reads, Chg.refl _ _, .inl rfl⟩⟩
      case round =>
        obtain ⟨q, hq, rfl, hJ⟩ := hrel
        obtain ⟨hys, hrd, hC, hvb⟩ := hJ.out
        obtain ⟨la, lc, rfl, hlc, _⟩ := hys.form
        have hB2 := HX.out.2.2.chg hC fun j hj => HE.out.1 j (HBv.out.1 j hj)
        have hh : wr.heap[wo.heap.size]? = some (.cells #[.slice va n vc, .slice none 0 0, .int .i64 m] 81 (0, 0)) := hC.keep HBv.out.2.1 fun e => by have := HX.out.2.1 _ e; omega
        have c2 := cell_in hh (i := 2) rfl
        by_cases hlq : q < 70
        · have hdq : decide ((q : Int) < 70) = true := decide_eq_true (by omega)
          have HMk := Lib.hid (markEntry_any (w := wr) m hm9)
          have HJ2 := Lib.hid (And.intro hys (And.intro hrd (And.intro hC hvb)))
          clear hJ hys hC hB2 hh hrd hvb
          go_wp2_with fail
          refine HMk.out.mono ?_
          rintro e w5 ⟨rfl, b5⟩
          obtain ⟨i0, k1, k2, k3, k4⟩ := info_parts info_entryB
          obtain ⟨v3, w6, hr, s3, c3, hvb3⟩ := run_append_oneK (P := Tryz.prog) (t := 37) (ty := 37) Tryz.underlying37 k1 k2 k3 k4 rfl (HJ2.out.1.below b5) (Nat.zero_le _) (markE m) rfl (by simp [Value.oneCell']) (by unfold maxLen; omega) (by omega)
          have hrd5 := HJ2.out.2.1.chg (Chg.of_below (fun _ => False) b5) fun _ _ => id
          have hs5 := b5.size
          have HS := Lib.hid (show SliceN w6 0 50 3 v3 (n + (q + 1)) (rep (n + (q + 1)) (markE m)) ∧ Reads w6 3 (.slice va n vc) n (rep n (markE m)) ∧ Chg (fun x => vblock (.slice va n vc) = some x) w4 w6 ∧ (vblock v3 = vblock (.slice va n vc) ∨ ∃ x, vblock v3 = some x ∧ wo.heap.size ≤ x) from by
            have hs6 : SliceN w6 0 50 3 v3 (n + (q + 1)) (rep (n + (q + 1)) (markE m)) := by
              rw [← Nat.add_assoc, rep_succ]; exact s3
            have hwz : wo.heap.size ≤ wr.heap.size := Nat.le_trans HBv.out.2.2.1.size HJ2.out.2.2.1.size
            have hvlt : ∀ j, vblock (.slice va n vc) = some j → j < wo.heap.size := fun j hj => by have := HX.out.2.1 j hj; omega
            have hw6 : Chg (fun x => vblock (.slice va n vc) = some x) w4 w6 := (HJ2.out.2.2.1.trans (Chg.of_below _ b5) fun j hj _ => hj).trans c3 fun j hj hlt4 => by
              rcases HJ2.out.2.2.2 with e | ⟨x, e, hx⟩
              · rw [e] at hj; exact hj.1
              · rw [e] at hj
                obtain ⟨hj1, _⟩ := hj
                cases hj1
                have h6 : w4.heap.size = wo.heap.size + 1 := by rw [HW4.out]; simp
                have h7 := (HJ2.out.1.block_lt e).1
                by_cases hxe : j = wo.heap.size
                · have hrow := HJ2.out.1
                  have hcel : wr.heap[wo.heap.size]? = some (.cells #[.slice va n vc, .slice none 0 0, .int .i64 m] 81 (0, 0)) := HJ2.out.2.2.1.keep HBv.out.2.1 fun e2 => by have := HX.out.2.1 _ e2; omega
                  exfalso
                  rcases hrow.2 with ⟨e3, _⟩ | ⟨g3, cap3, cur3, e3, _, ⟨fz, _, hrw⟩, _⟩
                  · rw [e3] at e; cases e
                  · rw [e3] at e
                    have hjg : g3 = j := Option.some.inj e
                    rw [hjg, hxe, hcel] at hrw
                    cases hrw
                · omega
            refine ⟨hs6, ?_, hw6, ?_⟩
            · by_cases hst : vblock v3 = vblock (.slice la (n + q) lc) ∧ vblock (.slice la (n + q) lc) = vblock (.slice va n vc)
              · rcases hs6.reads with ⟨rfl, hz⟩ | ⟨g, cap, rfl, _, _, hcl⟩
                · omega
                · rcases hrd5 with h0 | ⟨g', cap', e, h1, h2, h3⟩
                  · exact .inl h0
                  · have hgg : g = g' := by
                      have e9 := hst.1.trans hst.2
                      rw [e] at e9
                      cases e9; rfl
                    subst hgg
                    refine .inr ⟨g, cap', e, h1, h2, fun i hi => ?_⟩
                    rw [hcl i (by omega), rep_prefix n (q + 1) (markE m) (by simpa using hi)]
              · refine hrd5.chg c3 fun j hj ⟨h1, h2⟩ => hst ?_
                rw [h1, h2, hj]
                exact ⟨rfl, rfl⟩
            · rcases hvb3 with e | ⟨x, e, hx⟩
              · rw [e]; exact HJ2.out.2.2.2
              · exact .inr ⟨x, e, by omega⟩)
          have HR := Lib.hid hr
          obtain ⟨a3, c3', rfl, _⟩ := s3.form
          clear hr s3 c3 hvb3 k1 k2 k3 k4 hrd5 hs5 b5
          go_wp2_with (at_builtin; refine wpList_append_run rfl rfl HR.out ?_)
          go_roundw
          case rel => exact ⟨q + 1, by omega, by go_num, HS⟩
          case measure => simp [intOf]; omega
        · obtain rfl : q = 70 := by omega
          rw [show ((70 : Nat) : Int) = 70 from rfl]
          have hd70 : decide ((70 : Int) < 70) = false := by decide
          obtain ⟨hv0, hn, hm, hE', hkE, hkE'⟩ := HE3.out
          have hcw : Chg (fun x => vblock (.slice va n vc) = some x) wo wr := (Chg.of_below _ HBv.out.2.2.1).trans hC fun j hj _ => hj
          have hvbk : ∀ x, vblock (.slice va n vc) = some x → blocksV E x := HBv.out.1
          have hcb2 : wr.heap[b]? = some (.cells cs 35 (0, 0)) := hcw.keep HBv.out.2.2.2 fun e => HCs.out.2.2 (.inl (hvbk _ e))
          have xb2 := cell_in hcb2 HCs.out.2.1
          have hrow2 := hE'.row.chg hcw fun j hj e => by
            obtain ⟨h1, hh1, e1⟩ := hvbk j e
            exact HH.out.offt h1 hh1 j e1 hj
          have hrow3 := hrow2
          rw [hE'.agree.1, ← HN.out] at hrow3
          have y1' := hrow3.cell rfl (i := k * 3 + 1) (by omega)
          rw [(heldC_get hkE').2.1, (hE'.new k hkE hkE' (Nat.le_refl _)).1] at y1'
          obtain ⟨hput, hfz⟩ := hrow2.put (g := tg) (c := tc) (m := E.length) rfl (p := k * 3 + 1) (by omega) (.slice la (n + 70) lc)
          obtain ⟨w7, hw7⟩ : ∃ w7, w7 = wr.setCell ⟨tg, k * 3 + 1, none⟩ (.slice la (n + 70) lc) := ⟨_, rfl⟩
          rw [← hw7] at hput
          have hc7 : Chg (fun x => x = tg) wr w7 := by rw [hw7]; exact Chg.setCell _ _ _ _ rfl
          have HS := Lib.hid (show ∃ E', Grew w0 w 50 81 3 markE (.slice (some ⟨tg, 0, none⟩) E.length tc) E E' (k + 1) w7 from by
            have htgl : tg < w.heap.size := HLt.out tg (.inr rfl)
            have hntg : ∀ j (h1 : j < E.length), ∀ x, vblock E[j].v = some x → x ≠ tg := fun j h1 x hx e => HH.out.offt _ (List.getElem_mem h1) x hx (by rw [e]; rfl)
            refine ⟨E'.set k { E'[k] with g := .slice la (n + 70) lc }, hE'.agree.set hkE' _, ?_, ?_, ?_, ?_⟩
            · rw [List.length_set, heldC_set hkE']; exact hput
            · intro j h1 h2 hjk
              have h2' : j < E'.length := by rw [List.length_set] at h2; exact h2
              rw [List.getElem_set]
              by_cases hjk2 : k = j
              · subst hjk2
                rw [if_pos rfl, ← hv0, ← hn, ← hm]
                refine ⟨hrd.chg hc7 fun x hx e => hntg k hkE x (by rw [← hv0]; exact hx) e, hys.reads.chg hc7 fun x hx e => ?_, ?_⟩
                · rcases hvb with e2 | ⟨y, e2, hy⟩
                  · rw [e2] at hx
                    exact hntg k hkE x (by rw [← hv0]; exact hx) e
                  · rw [e2] at hx; cases hx; omega
                · rcases hvb with e2 | ⟨y, e2, hy⟩
                  · exact .inl e2
                  · exact .inr ⟨y, e2, by omega⟩
              · rw [if_neg hjk2]
                obtain ⟨o1, o2, o3⟩ := hE'.old j h1 h2' (by omega)
                have hvv : ∀ x, vblock E[j].v = some x → ¬ vblock (.slice va n vc) = some x := fun x hx hy => HH.out.apart j k h1 hkE (fun e => hjk2 e.symm) x hx (by rw [← hv0]; exact hy)
                have hgv : ∀ x, vblock E'[j].g = some x → ¬ vblock (.slice va n vc) = some x ∧ x ≠ tg := fun x hx => by
                  rcases o3 with e2 | ⟨y, e2, hy⟩
                  · rw [e2] at hx; exact ⟨hvv x hx, hntg j h1 x hx⟩
                  · rw [e2] at hx; cases hx
                    exact ⟨fun e3 => by have := HX.out.2.1 _ e3; omega, by omega⟩
                exact ⟨(o1.chg hcw fun x hx => hvv x hx).chg hc7 fun x hx e => hntg j h1 x hx e, (o2.chg hcw fun x hx => (hgv x hx).1).chg hc7 fun x hx e => (hgv x hx).2 e, o3⟩
            · intro j h1 h2 hjk
              have h2' : j < E'.length := by rw [List.length_set] at h2; exact h2
              rw [List.getElem_set, if_neg (by omega)]
              obtain ⟨o1, o2⟩ := hE'.new j h1 h2' (by omega)
              exact ⟨o1, (o2.chg hcw fun x hx hy => HH.out.apart j k h1 hkE (by omega) x hx (by rw [← hv0]; exact hy)).chg hc7 fun x hx e => hntg j h1 x hx e⟩
            · exact (hE'.chg.trans hcw fun x hx _ => .inl (hvbk x hx)).trans hc7 fun x hx _ => .inr (by rw [hx]; rfl))
          have HW7 := Lib.hid hw7
          clear hJ hys hC hB2 hh hrd hvb hE' hv0 hn hm hcw hvbk hcb2 hrow2 hrow3 hput hw7 hc7
          go_wp2_with fail
          rw [← HW7.out]
          go_roundw
          case rel => exact ⟨k + 1, by omega, by go_num, HS⟩
          case measure => simp [intOf]; omega
    · obtain rfl : k = N := by omega
      have HS := Lib.hid (show (∃ E', Grown wo b 6 81 3 markE (.slice ta E.length tc) E' ∧ Agree E E' ∧ ∀ h ∈ E', vblock h.g = vblock h.v ∨ ∃ x, vblock h.g = some x ∧ w.heap.size ≤ x) ∧ Chg (fun x => blocksV E x ∨ vblock (.slice ta E.length tc) = some x) w wo from by
        refine ⟨⟨E', ⟨⟨cs, hcb, by rw [← HN.out]; exact HCs.out.2.1⟩, hE'.row, ?_, ?_, ?_⟩, hE'.agree, ?_⟩, hE'.chg⟩
        · rw [hE'.agree.1]; exact HH.out.few
        · intro h hh
          obtain ⟨j, hj, rfl⟩ := List.getElem_of_mem hh
          have hj0 : j < E.length := by rw [← hE'.agree.1]; exact hj
          obtain ⟨_, a2, a3⟩ := hE'.agree.2 j hj0 hj
          rw [a2, a3]
          exact HH.out.small _ (List.getElem_mem hj0)
        · intro h hh
          obtain ⟨j, hj, rfl⟩ := List.getElem_of_mem hh
          have hj0 : j < E.length := by rw [← hE'.agree.1]; exact hj
          obtain ⟨a1, a2, a3⟩ := hE'.agree.2 j hj0 hj
          obtain ⟨h1, h2, _⟩ := hE'.old j hj0 hj (by rw [HN.out]; exact hj0)
          rw [a1, a2, a3]
          exact ⟨h1, h2⟩
        · intro h hh
          obtain ⟨j, hj, rfl⟩ := List.getElem_of_mem hh
          have hj0 : j < E.length := by rw [← hE'.agree.1]; exact hj
          obtain ⟨a1, a2, a3⟩ := hE'.agree.2 j hj0 hj
          obtain ⟨_, _, h3⟩ := hE'.old j hj0 hj (by rw [HN.out]; exact hj0)
          rw [a1]
          exact h3)
      clear hI hE' hcb
      go_wp2_with fail
      go_end0
      exact ⟨⟨_, rfl⟩, HS.out⟩
end Go.Proofs.YtmaemgihhipllaaGreatDoor

/- The book: lookEntry. (Printed by gen_bkp6.py.) -/
namespace Go.Proofs.YtmaemgihhipllaaGreatDoor
set_option linter.unusedVariables false
set_option linter.unusedSimpArgs false
open Go.RowKit
theorem rep_atEntry {n i j : Nat} (us : List Value) (hi : i < n) (hl : us.length = 3) (hj : j < 3) : (rep n us).getD (i * 3 + j) undef = us.getD j undef := by
  have := rep_get n us (k := i) (j := j) hi (by omega)
  rw [hl] at this
  exact this
set_option maxHeartbeats 6400000 in
set_option maxRecDepth 100000 in
theorem lookEntry_any {w0 w : World} (hB : Base w0 w) {b : Nat} {tv : Value} {E : List Held} (h : Grown w b 6 81 3 markE tv E) :
    Calls Tryz.prog 45 #[bkp b] w fun e w' => e = .returned (.bool true) ∧ Below w.heap.size w w' := by
  obtain ⟨N, hN⟩ : ∃ N, N = E.length := ⟨_, rfl⟩
  obtain ⟨ta, tc, rfl, htc, _⟩ := h.row.form
  rw [← hN] at htc
  have hN6 : N ≤ 1000000 := by have := h.few; omega
  have HH := Lib.hid h
  have HB := Lib.hid hB
  have HN := Lib.hid hN
  obtain ⟨cs, hcs, hci⟩ := h.head
  rw [← hN] at hci
  have HCs := Lib.hid (And.intro hcs hci)
  clear h hB hN hcs hci
  go_enter Tryz.func45, Tryz.ntmps45
  go_wp2_with fail
  go_loopw [3] (fun i wr => ∃ k : Nat, k ≤ N ∧ i = .int .i64 k ∧ Hid (Below w.heap.size w wr)) (fun i _ => N - (intOf i).toNat)
  case atStart => exact ⟨0, Nat.zero_le _, rfl, Lib.hid (Below.refl _ _)⟩
  case round =>
    obtain ⟨k, hk, rfl, hI⟩ := hrel
    obtain ⟨wo, rfl⟩ : ∃ wo, wo = wr := ⟨_, rfl⟩
    have hcb : wo.heap[b]? = some (.cells cs 35 (0, 0)) := (Chg.of_below (fun _ => False) hI.out).keep HCs.out.1 id
    have xr := cell_in hcb HCs.out.2
    by_cases hlt : k < N
    · have hkE : k < E.length := by rw [← HN.out]; exact hlt
      obtain ⟨v0, hv0⟩ : ∃ v0, v0 = E[k].v := ⟨_, rfl⟩
      obtain ⟨g0, hg0⟩ : ∃ g0, g0 = E[k].g := ⟨_, rfl⟩
      obtain ⟨n, hn⟩ : ∃ n, n = E[k].n := ⟨_, rfl⟩
      obtain ⟨m, hm⟩ : ∃ m, m = E[k].m := ⟨_, rfl⟩
      have hmem : E[k] ∈ E := List.getElem_mem hkE
      have hsm := HH.out.small _ hmem
      rw [← hn, ← hm] at hsm
      obtain ⟨hn9, hm9⟩ := hsm
      obtain ⟨hxv, hxg⟩ := HH.out.got _ hmem
      rw [← hv0, ← hn, ← hm] at hxv
      rw [← hg0, ← hn, ← hm] at hxg
      obtain ⟨va, vc, rfl, hvc, _⟩ := hxv.form
      obtain ⟨ga, gc, rfl, hgc, _⟩ := hxg.form
      have hrow := HH.out.row.below hI.out
      rw [← HN.out] at hrow
      obtain ⟨tg, hta⟩ : ∃ tg, ta = some ⟨tg, 0, none⟩ := by
        rcases hrow.2 with ⟨e, hz⟩ | ⟨g, cap, cur, e, _⟩
        · omega
        · cases e; exact ⟨g, rfl⟩
      subst hta
      obtain ⟨g1, g2, g3⟩ := heldC_get hkE
      have y0 := hrow.cell rfl (i := k * 3) (by omega)
      have y1 := hrow.cell rfl (i := k * 3 + 1) (by omega)
      have y2 := hrow.cell rfl (i := k * 3 + 2) (by omega)
      rw [g1, ← hv0] at y0
      rw [g2, ← hg0] at y1
      rw [g3, ← hm] at y2
      obtain ⟨w4, hw4⟩ : ∃ w4, w4 = wo.alloc (.cells #[.slice va n vc, .slice ga (n + 70) gc, .int .i64 m] 81) := ⟨_, rfl⟩
      have hb4 : w4.heap[wo.heap.size]? = some (.cells #[.slice va n vc, .slice ga (n + 70) gc, .int .i64 m] 81 (0, 0)) := by rw [hw4]; exact heap_new _ _
      have hbl4 : Below wo.heap.size wo w4 := by rw [hw4]; exact (Below.refl _ _).alloc (Nat.le_refl _) _
      have z0 := cell_in hb4 (i := 0) rfl
      have z1 := cell_in hb4 (i := 1) rfl
      have hbw4 : Below w.heap.size w w4 := hI.out.trans (hbl4.mono hI.out.size)
      have HX := Lib.hid (show Reads w4 3 (.slice va n vc) n (rep n (markE m)) ∧ Reads w4 3 (.slice ga (n + 70) gc) (n + 70) (rep (n + 70) (markE m)) ∧ Base w0 w4 ∧ Below w.heap.size w w4 from
        ⟨hxv.chg (Chg.of_below (fun _ => False) hbw4) fun _ _ => id, hxg.chg (Chg.of_below (fun _ => False) hbw4) fun _ _ => id, HB.out.below hbw4, hbw4⟩)
      have HW4 := Lib.hid hw4
      have HB4 := Lib.hid hb4
      have hne : (((n + 70 : Nat) : Int) != (n : Int) + 70) = false := by rw [bne_eq_false_iff_eq]; omega
      clear hxv hxg hrow g1 g2 g3 hv0 hg0 hn hm hw4 hb4 hbl4 hmem hbw4
      go_wp2_with fail
      rw [← HW4.out]
      go_loopw [5] (fun j wq => ∃ q : Nat, q ≤ n + 70 ∧ j = .int .i64 q ∧ Hid (Below w4.heap.size w4 wq)) (fun j _ => n + 70 - (intOf j).toNat)
      case atStart => exact ⟨0, Nat.zero_le _, rfl, Lib.hid (Below.refl _ _)⟩
      case round =>
        obtain ⟨q, hq, rfl, hJ⟩ := hrel
        have hh : wr.heap[wo.heap.size]? = some (.cells #[.slice va n vc, .slice ga (n + 70) gc, .int .i64 m] 81 (0, 0)) := (Chg.of_below (fun _ => False) hJ.out).keep HB4.out id
        have c1 := cell_in hh (i := 1) rfl
        by_cases hlq : q < n + 70
        · have hdq : decide ((q : Int) < (n : Int) + 70) = true := decide_eq_true (by omega)
          have hdq2 : decide (q < n + 70) = true := decide_eq_true (by omega)
          have hbd : Below w4.heap.size w4 wr.drew := belowN hJ.out 1
          obtain ⟨gg, gcap, hge, hgc20⟩ := (HX.out.2.1.chg (Chg.of_below (fun _ => False) hbd) fun _ _ => id).get (i := q * 3 + 0) (by omega)
          obtain ⟨gg1, gcap1, hge1, hgc21⟩ := (HX.out.2.1.chg (Chg.of_below (fun _ => False) hbd) fun _ _ => id).get (i := q * 3 + 1) (by omega)
          obtain ⟨gg2, gcap2, hge2, hgc22⟩ := (HX.out.2.1.chg (Chg.of_below (fun _ => False) hbd) fun _ _ => id).get (i := q * 3 + 2) (by omega)
          rw [rep_atEntry (markE m) hlq rfl (by omega)] at hgc20
          rw [rep_atEntry (markE m) hlq rfl (by omega)] at hgc21
          rw [rep_atEntry (markE m) hlq rfl (by omega)] at hgc22
          cases hge
          cases hge1
          cases hge2
          have hgc2 := And.intro hgc20 (And.intro hgc21 hgc22)
          have hgc2 : (wr.drew.cell? ⟨gg, q * 3, none⟩ = some (.int .u64 ((m : Int) + 99000)) ∧ wr.drew.cell? ⟨gg, q * 3 + 1, none⟩ = some (.int .u64 0) ∧ wr.drew.cell? ⟨gg, q * 3 + 2, none⟩ = some (.slice none 0 0)) := hgc2
          have hd : ∀ w5, Below wr.drew.heap.size wr.drew w5 → w5.heap[wo.heap.size]? = some (.cells #[.slice va n vc, .slice (some ⟨gg, 0, none⟩) (n + 70) gc, .int .i64 m] 81 (0, 0)) ∧ (w5.cell? ⟨gg, q * 3, none⟩ = some (.int .u64 ((m : Int) + 99000)) ∧ w5.cell? ⟨gg, q * 3 + 1, none⟩ = some (.int .u64 0) ∧ w5.cell? ⟨gg, q * 3 + 2, none⟩ = some (.slice none 0 0)) := fun w5 b5 =>
            ⟨(Chg.of_below (fun _ => False) b5).keep hh id, ⟨cell_chg (Chg.of_below (fun _ => False) b5) hgc2.1 id, cell_chg (Chg.of_below (fun _ => False) b5) hgc2.2.1 id, cell_chg (Chg.of_below (fun _ => False) b5) hgc2.2.2 id⟩⟩
          by_cases hqn : q < n
          · have hqd : decide ((q : Int) < (n : Int)) = true := decide_eq_true (by omega)
            have hqd2 : decide (q < n) = true := decide_eq_true (by omega)
            obtain ⟨vg, vcap, hve, hvc20⟩ := (HX.out.1.chg (Chg.of_below (fun _ => False) hbd) fun _ _ => id).get (i := q * 3 + 0) (by omega)
            obtain ⟨vg1, vcap1, hve1, hvc21⟩ := (HX.out.1.chg (Chg.of_below (fun _ => False) hbd) fun _ _ => id).get (i := q * 3 + 1) (by omega)
            obtain ⟨vg2, vcap2, hve2, hvc22⟩ := (HX.out.1.chg (Chg.of_below (fun _ => False) hbd) fun _ _ => id).get (i := q * 3 + 2) (by omega)
            rw [rep_atEntry (markE m) hqn rfl (by omega)] at hvc20
            rw [rep_atEntry (markE m) hqn rfl (by omega)] at hvc21
            rw [rep_atEntry (markE m) hqn rfl (by omega)] at hvc22
            cases hve
            cases hve1
            cases hve2
            have hvc2 := And.intro hvc20 (And.intro hvc21 hvc22)
            have hvc2 : (wr.drew.cell? ⟨vg, q * 3, none⟩ = some (.int .u64 ((m : Int) + 99000)) ∧ wr.drew.cell? ⟨vg, q * 3 + 1, none⟩ = some (.int .u64 0) ∧ wr.drew.cell? ⟨vg, q * 3 + 2, none⟩ = some (.slice none 0 0)) := hvc2
            obtain ⟨X1, f, hX1, hff, hF⟩ := classOf (fun y => (y.heap[wo.heap.size]? = some (.cells #[.slice (some ⟨vg, 0, none⟩) n vc, .slice (some ⟨gg, 0, none⟩) (n + 70) gc, .int .i64 m] 81 (0, 0)) ∧ (y.cell? ⟨gg, q * 3, none⟩ = some (.int .u64 ((m : Int) + 99000)) ∧ y.cell? ⟨gg, q * 3 + 1, none⟩ = some (.int .u64 0) ∧ y.cell? ⟨gg, q * 3 + 2, none⟩ = some (.slice none 0 0))) ∧ (y.cell? ⟨vg, q * 3, none⟩ = some (.int .u64 ((m : Int) + 99000)) ∧ y.cell? ⟨vg, q * 3 + 1, none⟩ = some (.int .u64 0) ∧ y.cell? ⟨vg, q * 3 + 2, none⟩ = some (.slice none 0 0))) (w := wr.drew) ⟨hd _ (Below.refl _ _), hvc2⟩
            have hf0 := fun x => cell_in (hff x).1.1 (i := 0) rfl
            have hf1 := fun x => cell_in (hff x).1.1 (i := 1) rfl
            have hf2 := fun x => cell_in (hff x).1.1 (i := 2) rfl
            have hf30 := fun x => (hff x).1.2.1
            have hf31 := fun x => (hff x).1.2.2.1
            have hf32 := fun x => (hff x).1.2.2.2
            have hf40 := fun x => (hff x).2.1
            have hf41 := fun x => (hff x).2.2.1
            have hf42 := fun x => (hff x).2.2.2
            have H0 := Lib.hid (hF wr.drew ⟨hd _ (Below.refl _ _), hvc2⟩)
            have HFc := Lib.hid (fun (w5 : World) (b5 : Below wr.drew.heap.size wr.drew w5) => hF w5 ⟨hd w5 b5, ⟨cell_chg (Chg.of_below (fun _ => False) b5) hvc2.1 id, cell_chg (Chg.of_below (fun _ => False) b5) hvc2.2.1 id, cell_chg (Chg.of_below (fun _ => False) b5) hvc2.2.2 id⟩⟩)
            have HIs := Lib.hid (fun (w5 : World) (b5 : Below wr.drew.heap.size wr.drew w5) => isEntry_any (w := w5) m hm9)
            have HJ2 := Lib.hid hJ.out
            clear hJ hh hff hF hd hgc2 hvc2 hbd
            go_wp2_with fail
            refine wp_region_text ⟨[7, 23], [], 27⟩ (fun w' => ∃ x : X1, w' = f x) (by kernel_rfl) (by kernel_rfl) H0.out ?_
            refine wpC_seg false (H0.out) 7 0 _ _ (by rfl) (by rfl) ?_
            simp only [List.take_succ_cons, List.take_zero, List.drop_succ_cons, List.drop_zero, Bool.false_eq_true, if_false, Nat.zero_add, Nat.reduceAdd]
            repeat (go_big_quiet_step (fail))
            refine wpQuiet_nil ?_
            refine wpC_loud (by rfl) (by rfl) fun K hK => ?_
            go_wp2_with fail
            refine (HIs.out _ (Below.refl _ _)).mono ?_
            rintro e w5 ⟨rfl, b5⟩
            have HB5 := Lib.hid b5
            have H5 := Lib.hid (HFc.out w5 b5)
            refine hK _ _ (fun _ => H5.out) ?_
            clear hK b5
            refine wpC_seg false (H5.out) 15 8 _ _ (by rfl) (by rfl) ?_
            simp only [List.take_succ_cons, List.take_zero, List.drop_succ_cons, List.drop_zero, Bool.false_eq_true, if_false, Nat.zero_add, Nat.reduceAdd]
            repeat (go_big_quiet_step (fail))
            refine wpQuiet_nil ?_
            refine wpC_loud (by rfl) (by rfl) fun K hK => ?_
            go_wp2_with fail
            refine (HIs.out _ HB5.out).mono ?_
            rintro e w6 ⟨rfl, b6⟩
            have HB6 := Lib.hid (HB5.out.trans (b6.mono HB5.out.size))
            have H6 := Lib.hid (HFc.out w6 HB6.out)
            refine hK _ _ (fun _ => H6.out) ?_
            clear hK b6
            refine wpC_seg false (H6.out) 3 24 _ _ (by rfl) (by rfl) ?_
            simp only [List.take_succ_cons, List.take_zero, List.drop_succ_cons, List.drop_zero, Bool.false_eq_true, if_false, Nat.zero_add, Nat.reduceAdd]
            repeat (go_big_quiet_step (fail))
            refine wpQuiet_nil ?_
            refine wpC_nil ?_
            have HS := Lib.hid (show Below w4.heap.size w4 w6 from HJ2.out.trans ((belowN (Below.refl wr.heap.size wr) 1).trans HB6.out |>.mono HJ2.out.size))
            clear hf0 hf1 hf2 hf30 hf31 hf32 hf40 hf41 hf42 hX1 H0 H5 H6 HFc HIs
            go_wp2_with fail
            go_roundw
            case rel => exact ⟨q + 1, by omega, by go_num, HS⟩
            case measure => simp [intOf]; omega
          · have hqd : decide ((q : Int) < (n : Int)) = false := decide_eq_false (by omega)
            have hqd2 : decide (q < n) = false := decide_eq_false (by omega)
            obtain ⟨X1, f, hX1, hff, hF⟩ := classOf (fun y => y.heap[wo.heap.size]? = some (.cells #[.slice va n vc, .slice (some ⟨gg, 0, none⟩) (n + 70) gc, .int .i64 m] 81 (0, 0)) ∧ (y.cell? ⟨gg, q * 3, none⟩ = some (.int .u64 ((m : Int) + 99000)) ∧ y.cell? ⟨gg, q * 3 + 1, none⟩ = some (.int .u64 0) ∧ y.cell? ⟨gg, q * 3 + 2, none⟩ = some (.slice none 0 0))) (w := wr.drew) (hd _ (Below.refl _ _))
            have hf0 := fun x => cell_in (hff x).1 (i := 0) rfl
            have hf1 := fun x => cell_in (hff x).1 (i := 1) rfl
            have hf2 := fun x => cell_in (hff x).1 (i := 2) rfl
            have hf30 := fun x => (hff x).2.1
            have hf31 := fun x => (hff x).2.2.1
            have hf32 := fun x => (hff x).2.2.2
            have H0 := Lib.hid (hF wr.drew (hd _ (Below.refl _ _)))
            have HFc := Lib.hid (fun (w5 : World) (b5 : Below wr.drew.heap.size wr.drew w5) => hF w5 (hd w5 b5))
            have HIs := Lib.hid (isEntry_any (w := wr.drew) m hm9)
            have HJ2 := Lib.hid hJ.out
            clear hJ hh hff hF hd hgc2 hbd
            go_wp2_with fail
            refine wp_region_text ⟨[7, 23], [], 27⟩ (fun w' => ∃ x : X1, w' = f x) (by kernel_rfl) (by kernel_rfl) H0.out ?_
            refine wpC_seg false (H0.out) 7 0 _ _ (by rfl) (by rfl) ?_
            simp only [List.take_succ_cons, List.take_zero, List.drop_succ_cons, List.drop_zero, Bool.false_eq_true, if_false, Nat.zero_add, Nat.reduceAdd]
            repeat (go_big_quiet_step (fail))
            refine wpQuiet_nil ?_
            refine wpC_loud (by rfl) (by rfl) fun K hK => ?_
            go_wp2_with fail
            refine HIs.out.mono ?_
            rintro e w5 ⟨rfl, b5⟩
            have HB5 := Lib.hid b5
            have H5 := Lib.hid (HFc.out w5 b5)
            refine hK _ _ (fun _ => H5.out) ?_
            clear hK b5
            refine wpC_seg false (H5.out) 15 8 _ _ (by rfl) (by rfl) ?_
            simp only [List.take_succ_cons, List.take_zero, List.drop_succ_cons, List.drop_zero, Bool.false_eq_true, if_false, Nat.zero_add, Nat.reduceAdd]
            repeat (go_big_quiet_step (fail))
            refine wpQuiet_nil ?_
            refine wpC_skip (by rfl) (by rfl) (fun _ => H5.out) ?_
            simp only [Act.put, List.setIfInBounds_toArray, List.set_cons_succ, List.set_cons_zero]
            refine wpC_seg false (H5.out) 3 24 _ _ (by rfl) (by rfl) ?_
            simp only [List.take_succ_cons, List.take_zero, List.drop_succ_cons, List.drop_zero, Bool.false_eq_true, if_false, Nat.zero_add, Nat.reduceAdd]
            repeat (go_big_quiet_step (fail))
            refine wpQuiet_nil ?_
            refine wpC_nil ?_
            have HS := Lib.hid (show Below w4.heap.size w4 w5 from HJ2.out.trans ((belowN (Below.refl wr.heap.size wr) 1).trans HB5.out |>.mono HJ2.out.size))
            clear hf0 hf1 hf2 hf30 hf31 hf32 hX1 H0 H5 HFc HIs
            go_wp2_with fail
            go_roundw
            case rel => exact ⟨q + 1, by omega, by go_num, HS⟩
            case measure => simp [intOf]; omega
        · obtain rfl : q = n + 70 := by omega
          have HS := Lib.hid (show Below w.heap.size w wr from HX.out.2.2.2.trans (hJ.out.mono HX.out.2.2.2.size))
          have hdq : decide (((n + 70 : Nat) : Int) < ((n + 70 : Nat) : Int)) = false := decide_eq_false (by omega)
          clear hJ hh
          go_wp2_with fail
          go_roundw
          case rel => exact ⟨k + 1, by omega, by go_num, HS⟩
          case measure => simp [intOf]; omega
    · obtain rfl : k = N := by omega
      have HS := Lib.hid hI.out
      clear hI
      go_wp2_with fail
      go_ret
      exact ⟨rfl, HS.out⟩
end Go.Proofs.YtmaemgihhipllaaGreatDoor

/- The book: keepEntry. (Printed by gen_bkp7.py.) -/
namespace Go.Proofs.YtmaemgihhipllaaGreatDoor
set_option linter.unusedVariables false
set_option linter.unusedSimpArgs false
open Go.RowKit
theorem info_heldEntry : (Tryz.prog.info? 81).map (fun i => (i.zero, i.size, i.bytes)) = some (some (.agg #[.slice none 0 0, .slice none 0 0, .int .i64 0]), 3, 56) := by kernel_rfl
set_option maxHeartbeats 3200000 in
set_option maxRecDepth 100000 in
theorem keepEntry_any {w : World} {b c : Nat} {cs : Array Value} {tv : Value} {E : List Held} (hb : w.heap[b]? = some (.cells cs 35 (0, 0))) (h0 : cs[0]? = some (.int .i64 (c : Int))) (hI : cs[6]? = some tv)
    (hrow : SliceN w 0 81 3 tv E.length (heldC E)) (hbt : vblock tv ≠ some b) (hc : c ≤ 1000000) (hE : E.length ≤ 1000000) (a : Option Addr) (n cap : Nat) :
    Calls Tryz.prog 17 #[bkp b, .slice a n cap] w fun e w' => (∃ v, e = .returned v) ∧ Kept w b 6 81 cs c tv E (.slice a n cap) n w' := by
  obtain ⟨ta, tc, rfl, htc, _⟩ := hrow.form
  obtain ⟨N, hN⟩ : ∃ N, N = E.length := ⟨_, rfl⟩
  have x0 := cell_in hb h0
  have f0 := frozen_in hb 0
  obtain ⟨w1, hw1⟩ : ∃ w1, w1 = w.setCell ⟨b, 0, none⟩ (.int .i64 ((c : Int) + 1)) := ⟨_, rfl⟩
  have hb1 : w1.heap[b]? = some (.cells (cs.setIfInBounds 0 (.int .i64 ((c : Int) + 1))) 35 (0, 0)) := by rw [hw1]; exact setCell_head hb 0 _
  have hc1 : Chg (fun k => k = b) w w1 := by rw [hw1]; exact Chg.setCell _ _ _ _ rfl
  have hrow1 := hrow.chg hc1 fun k hk e => hbt (by rw [← e]; exact hk)
  have hs0 : 0 < cs.size := (Array.getElem?_eq_some_iff.1 h0).1
  have h01 : (cs.setIfInBounds 0 (.int .i64 ((c : Int) + 1)))[0]? = some (.int .i64 ((c : Int) + 1)) := by simp [hs0]
  have h31 : (cs.setIfInBounds 0 (.int .i64 ((c : Int) + 1)))[6]? = some (.slice ta E.length tc) := by
    rw [Array.getElem?_setIfInBounds, if_neg (by omega)]; exact hI
  rw [← hN] at h31
  -- the append
  have hd1 : Below w1.heap.size w1 w1.drew := belowN (Below.refl _ _) 1
  obtain ⟨i0, k1, k2, k3, k4⟩ := info_parts info_heldEntry
  obtain ⟨v3, w3, hr, s3, c3, hvb3⟩ := run_append_oneN (P := Tryz.prog) (t := 30) (ty := 30) Tryz.underlying30 k1 k2 k3 k4 rfl (hrow1.below hd1) (Nat.zero_le _) [.slice a n cap, .slice none 0 0, .int .i64 ((c : Int) + 1)] rfl (by simp [Value.oneCell']) (by unfold maxLen; omega) (by omega)
  obtain ⟨a3, cc3, rfl, _, _⟩ := s3.form
  have hnb : ¬ vblock (.slice ta E.length tc) = some b := hbt
  have hb3 : w3.heap[b]? = some (.cells (cs.setIfInBounds 0 (.int .i64 ((c : Int) + 1))) 35 (0, 0)) := c3.keep (show w1.drew.heap[b]? = _ from hb1) hnb
  obtain ⟨w4, hw4⟩ : ∃ w4, w4 = w3.setCell ⟨b, 6, none⟩ (.slice a3 (N + 1) cc3) := ⟨_, rfl⟩
  have hb4 := setCell_head hb3 6 (.slice a3 (N + 1) cc3)
  rw [← hw4] at hb4
  have hbl : b < w.heap.size := heap_lt hb
  have hsz1 : w.heap.size ≤ w1.drew.heap.size := hc1.size
  have HE := Lib.hid (show Kept w b 6 81 cs c (.slice ta E.length tc) E (.slice a n cap) n w4 from by
    have hc4 : Chg (fun k => k = b) w3 w4 := by rw [hw4]; exact Chg.setCell _ _ _ _ rfl
    refine ⟨.slice a3 (N + 1) cc3, hb4, ?_, ?_, ?_⟩
    · rw [heldC_snoc, List.length_append, List.length_singleton]
      rw [hN]
      refine s3.chg hc4 fun k hk e => ?_
      rcases hvb3 with h | ⟨x, h, hx⟩
      · rw [h] at hk; exact hbt (by rw [← e]; exact hk)
      · rw [h] at hk; cases hk; omega
    · rcases hvb3 with h | ⟨x, h, hx⟩
      · rw [hN]; exact .inl h
      · exact .inr ⟨x, by rw [hN]; exact h, by omega⟩
    · refine ((hc1.mono fun k hk _ => .inl hk).trans ((Chg.drew _ w1).trans c3 fun k hk _ => hk) fun k hk _ => .inr hk).trans hc4 fun k hk _ => .inl hk)
  obtain ⟨W1, hW1⟩ : ∃ W1, W1 = (w1.alloc (.cells #[.slice a n cap, .slice none 0 0, .int .i64 ((c : Int) + 1)] 81)).drew := ⟨_, rfl⟩
  have hbW : W1.heap[b]? = some (.cells (cs.setIfInBounds 0 (.int .i64 ((c : Int) + 1))) 35 (0, 0)) := by rw [hW1]; exact heap_old (show w1.heap[b]? = _ from hb1) _
  obtain ⟨X1, f, hX1, hff, hF⟩ := classOf (fun y => y.cell? ⟨b, 0, none⟩ = some (.int .i64 ((c : Int) + 1)) ∧ y.cell? ⟨b, 6, none⟩ = some (.slice ta N tc)) (w := w1.drew) ⟨cell_in (show w1.drew.heap[b]? = _ from hb1) h01, cell_in (show w1.drew.heap[b]? = _ from hb1) h31⟩
  have hf0 := fun x => (hff x).1
  have hf3 := fun x => (hff x).2
  have H0 := Lib.hid (hF w1.drew ⟨cell_in (show w1.drew.heap[b]? = _ from hb1) h01, cell_in (show w1.drew.heap[b]? = _ from hb1) h31⟩)
  have H1 := Lib.hid (hF W1 ⟨cell_in hbW h01, cell_in hbW h31⟩)
  have hr : (Builtin.append_ #[30, 30] 30 #[.slice ta N tc, .slice (some ⟨w1.heap.size, 0, none⟩) 1 1]).run Tryz.prog W1 = .ok (.slice a3 (N + 1) cc3) w3 := by rw [hW1, hN]; exact hr
  have HR := Lib.hid hr
  have q3 := cell_in hb3 h31
  have qf := frozen_in hb3 6
  have HW1 := Lib.hid hw1
  have HWa := Lib.hid hW1
  have HW4 := Lib.hid hw4
  clear hb h0 hI hrow hbt hw1 hb1 hc1 hrow1 h01 h31 hd1 hr s3 c3 hvb3 hnb hb3 hw4 hb4 hW1 hbW hff hF k1 k2 k3 k4 hN hE hs0
  go_enter Tryz.func17, Tryz.ntmps17
  go_wp2_with fail
  rw [← HW1.out]
  refine wp_region_text ⟨[11, 12, 15], [0, 13, 14], 12⟩ (fun w' => ∃ x : X1, w' = f x) (by kernel_rfl) (by kernel_rfl) H0.out ?_
  refine wpC_seg true (H0.out) 1 0 _ _ (by rfl) (by rfl) ?_
  simp only [List.take_succ_cons, List.take_zero, List.drop_succ_cons, List.drop_zero, if_true, Nat.zero_add, Nat.reduceAdd]
  repeat (go_big_quiet_step (fail))
  refine wpQuiet_nil ?_
  refine wpC_seg false (H0.out) 10 1 _ _ (by rfl) (by rfl) ?_
  simp only [List.take_succ_cons, List.take_zero, List.drop_succ_cons, List.drop_zero, Bool.false_eq_true, if_false, Nat.zero_add, Nat.reduceAdd]
  repeat (go_big_quiet_step (fail))
  refine wpQuiet_nil ?_
  refine wpC_loud (by rfl) (by rfl) fun K hK => ?_
  go_wp2_with fail
  rw [← HWa.out]
  refine hK _ _ (fun _ => H1.out) ?_
  clear hK
  refine wpC_value (by rfl) (by rfl) (exec_append rfl HR.out) (fun h => absurd h (by decide)) ?_
  simp only [Act.put, List.setIfInBounds_toArray, List.set_cons_succ, List.set_cons_zero]
  refine wpC_segD 2 13 _ _ (by rfl) (by rfl) ?_
  simp only [List.take_succ_cons, List.take_zero, List.drop_succ_cons, List.drop_zero, if_true, Nat.zero_add, Nat.reduceAdd]
  repeat (go_big_quiet_step (fail))
  refine wpQuiet_nil ?_
  clear hf0 hf3 H0 H1
  refine wpC_loud (by rfl) (by rfl) fun K hK => ?_
  go_wp2_with fail
  rw [← HW4.out]
  refine hK _ _ (fun h => absurd h (by decide)) ?_
  clear hK
  refine wpC_nil ?_
  go_wp2_with fail
  go_end0
  exact ⟨⟨_, rfl⟩, HE.out⟩
end Go.Proofs.YtmaemgihhipllaaGreatDoor

/- The book of pairs and entries: what it holds; what leaves it alone. -/
namespace Go.Proofs.YtmaemgihhipllaaGreatDoor
set_option linter.unusedVariables false
set_option linter.unusedSimpArgs false
open Go.RowKit
abbrev bookX (c : Nat) (tp te : Value) : Array Value := #[.int .i64 (c : Int), nilV, nilV, nilV, tp, nilV, te, nilV, nilV, nilV]
/-- Two blocks, where there are two, are not one. -/
abbrev Off (x y : Option Nat) : Prop := ∀ k, x = some k → y ≠ some k
theorem Off.symm {x y : Option Nat} (h : Off x y) : Off y x := fun k hy hx => h k hx hy
/-- The blocks of a book of pairs and entries, its own ahead. -/
def blocksX (b : Nat) (tp te : Value) (P E : List Held) : List (Option Nat) := some b :: vblock tp :: vblock te :: (P.map (fun h => vblock h.v) ++ E.map (fun h => vblock h.v))
structure BookX (w0 w : World) (b c : Nat) (tp te : Value) (P E : List Held) (Bk : Nat → Prop) : Prop where
  base : Base w0 w
  head : w.heap[b]? = some (.cells (bookX c tp te) 35 (0, 0))
  rowP : SliceN w 0 106 3 tp P.length (heldC P)
  rowE : SliceN w 0 81 3 te E.length (heldC E)
  all : ∀ k, Bk k ↔ some k ∈ blocksX b tp te P E
  off : (blocksX b tp te P E).Pairwise Off
  old : ∀ k, Bk k → w0.heap.size ≤ k
  count : c = P.length + E.length
  few : c ≤ 1000000
  small : ∀ h ∈ P ++ E, h.n ≤ 1000000000 ∧ h.m ≤ 1000000000
  gotP : ∀ h ∈ P, ∃ xs, SliceN w 0 68 2 h.v h.n xs
  gotE : ∀ h ∈ E, ∃ xs, SliceN w 0 50 3 h.v h.n xs
  gnil : ∀ h ∈ P ++ E, h.g = nilV
section
variable {w0 w w' : World} {b c : Nat} {tp te : Value} {P E : List Held} {Bk : Nat → Prop}
theorem mem_blocksX {k : Nat} : some k ∈ blocksX b tp te P E ↔ k = b ∨ vblock tp = some k ∨ vblock te = some k ∨ blocksV P k ∨ blocksV E k := by
  unfold blocksX blocksV
  simp only [List.mem_cons, List.mem_append, List.mem_map, Option.some.injEq, eq_comm]
theorem BookX.cases (h : BookX w0 w b c tp te P E Bk) {k : Nat} : Bk k ↔ k = b ∨ vblock tp = some k ∨ vblock te = some k ∨ blocksV P k ∨ blocksV E k := (h.all k).trans mem_blocksX
theorem BookX.lt (h : BookX w0 w b c tp te P E Bk) {k : Nat} (hk : Bk k) : k < w.heap.size := by
  rcases h.cases.1 hk with rfl | hk | hk | ⟨x, hx, e⟩ | ⟨x, hx, e⟩
  · exact heap_lt h.head
  · exact (h.rowP.block_lt hk).2
  · exact (h.rowE.block_lt hk).2
  · obtain ⟨xs, hs⟩ := h.gotP x hx
    exact (hs.block_lt e).2
  · obtain ⟨xs, hs⟩ := h.gotE x hx
    exact (hs.block_lt e).2
theorem BookX.chg (h : BookX w0 w b c tp te P E Bk) {S : Nat → Prop} (hc : Chg S w w') (hn : ∀ k, Bk k → ¬ S k) (hS : ∀ k, S k → w0.heap.size ≤ k) : BookX w0 w' b c tp te P E Bk :=
  { h with base := h.base.chg hc hS, head := hc.keep h.head (hn b (h.cases.2 (.inl rfl))), rowP := h.rowP.chg hc fun k hk => hn k (h.cases.2 (.inr (.inl hk))), rowE := h.rowE.chg hc fun k hk => hn k (h.cases.2 (.inr (.inr (.inl hk)))),
           gotP := fun x hx => by obtain ⟨xs, hs⟩ := h.gotP x hx; exact ⟨xs, hs.chg hc fun k hk => hn k (h.cases.2 (.inr (.inr (.inr (.inl ⟨x, hx, hk⟩)))))⟩,
           gotE := fun x hx => by obtain ⟨xs, hs⟩ := h.gotE x hx; exact ⟨xs, hs.chg hc fun k hk => hn k (h.cases.2 (.inr (.inr (.inr (.inr ⟨x, hx, hk⟩)))))⟩ }
theorem BookX.below (h : BookX w0 w b c tp te P E Bk) (hb : Below w.heap.size w w') : BookX w0 w' b c tp te P E Bk := h.chg (Chg.of_below (fun _ => False) hb) (fun _ _ => id) fun _ => False.elim
end
end Go.Proofs.YtmaemgihhipllaaGreatDoor

/- The book of pairs and entries: what each kind's walks want of it; one more list. -/
namespace Go.Proofs.YtmaemgihhipllaaGreatDoor
set_option linter.unusedVariables false
set_option linter.unusedSimpArgs false
open Go.RowKit
theorem pairwise_two {L : List Held} (h : (L.map (fun h => vblock h.v)).Pairwise Off) (i j : Nat) (hi : i < L.length) (hj : j < L.length) (hij : i ≠ j) : Off (vblock L[i].v) (vblock L[j].v) := by
  rcases Nat.lt_or_ge i j with hlt | hge
  · have := List.pairwise_iff_getElem.1 h i j (by simpa using hi) (by simpa using hj) hlt
    simpa using this
  · have := List.pairwise_iff_getElem.1 h j i (by simpa using hj) (by simpa using hi) (by omega)
    exact Off.symm (by simpa using this)
section
variable {w0 w w' : World} {b c : Nat} {tp te : Value} {P E : List Held} {Bk : Nat → Prop}
theorem BookX.parts (h : BookX w0 w b c tp te P E Bk) : (Off (some b) (vblock tp) ∧ Off (some b) (vblock te) ∧ (∀ x ∈ P, Off (some b) (vblock x.v)) ∧ ∀ x ∈ E, Off (some b) (vblock x.v)) ∧
    (Off (vblock tp) (vblock te) ∧ (∀ x ∈ P, Off (vblock tp) (vblock x.v)) ∧ ∀ x ∈ E, Off (vblock tp) (vblock x.v)) ∧ ((∀ x ∈ P, Off (vblock te) (vblock x.v)) ∧ ∀ x ∈ E, Off (vblock te) (vblock x.v)) ∧
    (P.map (fun h => vblock h.v)).Pairwise Off ∧ (E.map (fun h => vblock h.v)).Pairwise Off ∧ ∀ x ∈ P, ∀ y ∈ E, Off (vblock x.v) (vblock y.v) := by
  have h0 := h.off
  unfold blocksX at h0
  obtain ⟨a1, h1⟩ := List.pairwise_cons.1 h0
  obtain ⟨a2, h2⟩ := List.pairwise_cons.1 h1
  obtain ⟨a3, h3⟩ := List.pairwise_cons.1 h2
  obtain ⟨a4, a5, a6⟩ := List.pairwise_append.1 h3
  have mp : ∀ x ∈ P, vblock x.v ∈ P.map (fun h => vblock h.v) := fun x hx => List.mem_map_of_mem hx
  have me : ∀ x ∈ E, vblock x.v ∈ E.map (fun h => vblock h.v) := fun x hx => List.mem_map_of_mem hx
  exact ⟨⟨a1 _ (by simp), a1 _ (by simp), fun x hx => a1 _ (by simp [mp x hx]), fun x hx => a1 _ (by simp [me x hx])⟩,
    ⟨a2 _ (by simp), fun x hx => a2 _ (by simp [mp x hx]), fun x hx => a2 _ (by simp [me x hx])⟩,
    ⟨fun x hx => a3 _ (by simp [mp x hx]), fun x hx => a3 _ (by simp [me x hx])⟩, a4, a5, fun x hx y hy => a6 _ (mp x hx) _ (me y hy)⟩
theorem BookX.holdsP (h : BookX w0 w b c tp te P E Bk) : Holds w b 4 106 68 2 tp P := by
  obtain ⟨⟨p1, p2, p3, p4⟩, ⟨p5, p6, p7⟩, ⟨p8, p9⟩, p10, p11, p12⟩ := h.parts
  refine ⟨⟨_, h.head, rfl⟩, h.rowP, by have := h.few; have := h.count; omega, fun x hx => h.small x (by simp [hx]), h.gotP, fun i j hi hj hij => pairwise_two p10 i j hi hj hij, fun x hx => ?_, fun x hx => ?_⟩
  · exact fun e => p3 x hx b rfl e
  · exact Off.symm (p6 x hx)
theorem BookX.holdsE (h : BookX w0 w b c tp te P E Bk) : Holds w b 6 81 50 3 te E := by
  obtain ⟨⟨p1, p2, p3, p4⟩, ⟨p5, p6, p7⟩, ⟨p8, p9⟩, p10, p11, p12⟩ := h.parts
  refine ⟨⟨_, h.head, rfl⟩, h.rowE, by have := h.few; have := h.count; omega, fun x hx => h.small x (by simp [hx]), h.gotE, fun i j hi hj hij => pairwise_two p11 i j hi hj hij, fun x hx => ?_, fun x hx => ?_⟩
  · exact fun e => p4 x hx b rfl e
  · exact Off.symm (p9 x hx)
end
end Go.Proofs.YtmaemgihhipllaaGreatDoor

/- The book of pairs and entries: one more list of pairs, one more of entries. -/
namespace Go.Proofs.YtmaemgihhipllaaGreatDoor
set_option linter.unusedVariables false
set_option linter.unusedSimpArgs false
open Go.RowKit
section
variable {w0 w w' : World} {b c : Nat} {tp te : Value} {P E : List Held} {Bk : Nat → Prop}
/-- One more list of pairs is told to it: one that is of no block of the book. -/
theorem BookX.keptP (h : BookX w0 w b c tp te P E Bk) (hc : c < 1000000) {a : Option Addr} {n cap : Nat} {xs : List Value} (hv : SliceN w 0 68 2 (.slice a n cap) n xs) (hfr : ∀ k, vblock (.slice a n cap) = some k → ¬ Bk k ∧ w0.heap.size ≤ k) (hn : n ≤ 1000000000)
    (hk : Kept w b 4 106 (bookX c tp te) c tp P (.slice a n cap) n w') :
    (∃ tp' Bk', BookX w0 w' b (c + 1) tp' te (P ++ [⟨.slice a n cap, nilV, n, c + 1⟩]) E Bk' ∧ ∀ k, Bk' k → Bk k ∨ vblock (.slice a n cap) = some k ∨ w.heap.size ≤ k) ∧ Chg Bk w w' := by
  obtain ⟨⟨p1, p2, p3, p4⟩, ⟨p5, p6, p7⟩, ⟨p8, p9⟩, p10, p11, p12⟩ := h.parts
  have hcn := h.count
  obtain ⟨tp', k1, k2, k3, k4⟩ := hk
  have hS : Chg Bk w w' := k4.mono fun k hk _ => by
    rcases hk with rfl | hk
    · exact h.cases.2 (.inl rfl)
    · exact h.cases.2 (.inr (.inl hk))
  -- what was not of the book before is of no block of it; what is new is of none that is old
  have hnew : ∀ x : Option Nat, (∀ k, x = some k → k < w.heap.size) → Off x (vblock tp) → Off x (vblock tp') := fun x hx ho k hk e => by
    rcases k3 with e2 | ⟨y, e2, hy⟩
    · exact ho k hk (by rw [← e2]; exact e)
    · rw [e2] at e; cases e
      have := hx k hk; omega
  have lt : ∀ k, Bk k → k < w.heap.size := fun k hk => h.lt hk
  have lv : ∀ k, vblock (.slice a n cap) = some k → k < w.heap.size := fun k hk => (hv.block_lt hk).2
  have offv : ∀ x : Option Nat, (∀ k, x = some k → Bk k) → Off x (vblock (.slice a n cap)) := fun x hx k hk e => (hfr k e).1 (hx k hk)
  have ib : ∀ k, some b = some k → Bk k := fun k hk => h.cases.2 (.inl (Option.some.inj hk).symm)
  have ip : ∀ k, vblock tp = some k → Bk k := fun k hk => h.cases.2 (.inr (.inl hk))
  have ie : ∀ k, vblock te = some k → Bk k := fun k hk => h.cases.2 (.inr (.inr (.inl hk)))
  have iP : ∀ x ∈ P, ∀ k, vblock x.v = some k → Bk k := fun x hx k hk => h.cases.2 (.inr (.inr (.inr (.inl ⟨x, hx, hk⟩))))
  have iE : ∀ x ∈ E, ∀ k, vblock x.v = some k → Bk k := fun x hx k hk => h.cases.2 (.inr (.inr (.inr (.inr ⟨x, hx, hk⟩))))
  have hall : ∀ k, some k ∈ blocksX b tp' te (P ++ [⟨.slice a n cap, nilV, n, c + 1⟩]) E → Bk k ∨ vblock (.slice a n cap) = some k ∨ w.heap.size ≤ k := fun k hk => by
    rcases mem_blocksX.1 hk with rfl | hk | hk | ⟨x, hx, hk⟩ | ⟨x, hx, hk⟩
    · exact .inl (h.cases.2 (.inl rfl))
    · rcases k3 with e2 | ⟨y, e2, hy⟩
      · rw [e2] at hk; exact .inl (ip k hk)
      · rw [e2] at hk; cases hk; exact .inr (.inr hy)
    · exact .inl (ie k hk)
    · rcases List.mem_append.1 hx with hx | hx
      · exact .inl (iP x hx k hk)
      · have : x = ⟨.slice a n cap, nilV, n, c + 1⟩ := by simpa using hx
        subst this; exact .inr (.inl hk)
    · exact .inl (iE x hx k hk)
  have hSP : ∀ x ∈ P, ∀ k, vblock x.v = some k → ¬ (k = b ∨ vblock tp = some k) := fun x hx k hk hS => hS.elim (fun e => p3 x hx k (by rw [e]) hk) fun e => p6 x hx k e hk
  have hSE : ∀ x ∈ E, ∀ k, vblock x.v = some k → ¬ (k = b ∨ vblock tp = some k) := fun x hx k hk hS => hS.elim (fun e => p4 x hx k (by rw [e]) hk) fun e => p7 x hx k e hk
  have hSv : ∀ k, vblock (.slice a n cap) = some k → ¬ (k = b ∨ vblock tp = some k) := fun k hk hS => (hfr k hk).1 (h.cases.2 (hS.imp id .inl))
  have hSe : ∀ k, vblock te = some k → ¬ (k = b ∨ vblock tp = some k) := fun k hk hS => hS.elim (fun e => p2 k (by rw [e]) hk) fun e => p5 k e hk
  have hbl : ∀ k, some b = some k → k < w.heap.size := fun k hk => lt k (ib k hk)
  refine ⟨⟨tp', fun k => some k ∈ blocksX b tp' te (P ++ [⟨.slice a n cap, nilV, n, c + 1⟩]) E, ⟨h.base.chg hS h.old, k1, k2, h.rowE.chg k4 hSe, fun k => Iff.rfl, ?_, fun k hk => ?_, by rw [List.length_append, List.length_singleton]; omega, by omega, fun x hx => ?_, fun x hx => ?_, fun x hx => ?_, fun x hx => ?_⟩, hall⟩, hS⟩
  · unfold blocksX
    refine List.pairwise_cons.2 ⟨fun o ho => ?_, List.pairwise_cons.2 ⟨fun o ho => ?_, List.pairwise_cons.2 ⟨fun o ho => ?_, List.pairwise_append.2 ⟨?_, p11, fun o ho o' ho' => ?_⟩⟩⟩⟩
    · simp only [List.mem_cons, List.mem_append, List.map_append, List.map_cons, List.map_nil, List.mem_map, List.not_mem_nil, or_false] at ho
      rcases ho with rfl | rfl | (⟨x, hx, rfl⟩ | rfl) | ⟨x, hx, rfl⟩
      · exact hnew _ hbl p1
      · exact p2
      · exact p3 x hx
      · exact offv _ ib
      · exact p4 x hx
    · simp only [List.mem_cons, List.mem_append, List.map_append, List.map_cons, List.map_nil, List.mem_map, List.not_mem_nil, or_false] at ho
      rcases ho with rfl | (⟨x, hx, rfl⟩ | rfl) | ⟨x, hx, rfl⟩
      · exact Off.symm (hnew _ (fun k hk => lt k (ie k hk)) (Off.symm p5))
      · exact Off.symm (hnew _ (fun k hk => lt k (iP x hx k hk)) (Off.symm (p6 x hx)))
      · exact Off.symm (hnew _ lv (Off.symm (offv _ ip)))
      · exact Off.symm (hnew _ (fun k hk => lt k (iE x hx k hk)) (Off.symm (p7 x hx)))
    · simp only [List.mem_append, List.map_append, List.map_cons, List.map_nil, List.mem_cons, List.mem_map, List.not_mem_nil, or_false] at ho
      rcases ho with (⟨x, hx, rfl⟩ | rfl) | ⟨x, hx, rfl⟩
      · exact p8 x hx
      · exact offv _ ie
      · exact p9 x hx
    · rw [List.map_append]
      refine List.pairwise_append.2 ⟨p10, List.pairwise_singleton _ _, fun o ho o' ho' => ?_⟩
      obtain ⟨x, hx, rfl⟩ := List.mem_map.1 ho
      have : o' = vblock (.slice a n cap) := by simpa using ho'
      rw [this]
      exact offv _ (iP x hx)
    · obtain ⟨y, hy, rfl⟩ := List.mem_map.1 ho'
      obtain ⟨x, hx, rfl⟩ := List.mem_map.1 ho
      rcases List.mem_append.1 hx with hx | hx
      · exact p12 x hx y hy
      · have : x = ⟨.slice a n cap, nilV, n, c + 1⟩ := by simpa using hx
        subst this
        exact Off.symm (offv _ (iE y hy))
  · rcases hall k hk with hk | hk | hk
    · exact h.old k hk
    · exact (hfr k hk).2
    · have := h.base.bel.size; omega
  · simp only [List.mem_append, List.mem_singleton] at hx
    rcases hx with (hx | rfl) | hx
    · exact h.small x (by simp [hx])
    · exact ⟨hn, by show c + 1 ≤ _; omega⟩
    · exact h.small x (by simp [hx])
  · rcases List.mem_append.1 hx with hx | hx
    · obtain ⟨ys, hs⟩ := h.gotP x hx
      exact ⟨ys, hs.chg k4 (hSP x hx)⟩
    · have : x = ⟨.slice a n cap, nilV, n, c + 1⟩ := by simpa using hx
      subst this
      exact ⟨xs, hv.chg k4 hSv⟩
  · obtain ⟨ys, hs⟩ := h.gotE x hx
    exact ⟨ys, hs.chg k4 (hSE x hx)⟩
  · simp only [List.mem_append, List.mem_singleton] at hx
    rcases hx with (hx | rfl) | hx
    · exact h.gnil x (by simp [hx])
    · rfl
    · exact h.gnil x (by simp [hx])
/-- One more list of entries is told to it: one that is of no block of the book. -/
theorem BookX.keptE (h : BookX w0 w b c tp te P E Bk) (hc : c < 1000000) {a : Option Addr} {n cap : Nat} {xs : List Value} (hv : SliceN w 0 50 3 (.slice a n cap) n xs) (hfr : ∀ k, vblock (.slice a n cap) = some k → ¬ Bk k ∧ w0.heap.size ≤ k) (hn : n ≤ 1000000000)
    (hk : Kept w b 6 81 (bookX c tp te) c te E (.slice a n cap) n w') :
    (∃ te' Bk', BookX w0 w' b (c + 1) tp te' P (E ++ [⟨.slice a n cap, nilV, n, c + 1⟩]) Bk' ∧ ∀ k, Bk' k → Bk k ∨ vblock (.slice a n cap) = some k ∨ w.heap.size ≤ k) ∧ Chg Bk w w' := by
  obtain ⟨⟨p1, p2, p3, p4⟩, ⟨p5, p6, p7⟩, ⟨p8, p9⟩, p10, p11, p12⟩ := h.parts
  have hcn := h.count
  obtain ⟨te', k1, k2, k3, k4⟩ := hk
  have hS : Chg Bk w w' := k4.mono fun k hk _ => by
    rcases hk with rfl | hk
    · exact h.cases.2 (.inl rfl)
    · exact h.cases.2 (.inr (.inr (.inl hk)))
  have hnew : ∀ x : Option Nat, (∀ k, x = some k → k < w.heap.size) → Off x (vblock te) → Off x (vblock te') := fun x hx ho k hk e => by
    rcases k3 with e2 | ⟨y, e2, hy⟩
    · exact ho k hk (by rw [← e2]; exact e)
    · rw [e2] at e; cases e
      have := hx k hk; omega
  have lt : ∀ k, Bk k → k < w.heap.size := fun k hk => h.lt hk
  have lv : ∀ k, vblock (.slice a n cap) = some k → k < w.heap.size := fun k hk => (hv.block_lt hk).2
  have offv : ∀ x : Option Nat, (∀ k, x = some k → Bk k) → Off x (vblock (.slice a n cap)) := fun x hx k hk e => (hfr k e).1 (hx k hk)
  have ib : ∀ k, some b = some k → Bk k := fun k hk => h.cases.2 (.inl (Option.some.inj hk).symm)
  have ip : ∀ k, vblock tp = some k → Bk k := fun k hk => h.cases.2 (.inr (.inl hk))
  have ie : ∀ k, vblock te = some k → Bk k := fun k hk => h.cases.2 (.inr (.inr (.inl hk)))
  have iP : ∀ x ∈ P, ∀ k, vblock x.v = some k → Bk k := fun x hx k hk => h.cases.2 (.inr (.inr (.inr (.inl ⟨x, hx, hk⟩))))
  have iE : ∀ x ∈ E, ∀ k, vblock x.v = some k → Bk k := fun x hx k hk => h.cases.2 (.inr (.inr (.inr (.inr ⟨x, hx, hk⟩))))
  have hall : ∀ k, some k ∈ blocksX b tp te' P (E ++ [⟨.slice a n cap, nilV, n, c + 1⟩]) → Bk k ∨ vblock (.slice a n cap) = some k ∨ w.heap.size ≤ k := fun k hk => by
    rcases mem_blocksX.1 hk with rfl | hk | hk | ⟨x, hx, hk⟩ | ⟨x, hx, hk⟩
    · exact .inl (h.cases.2 (.inl rfl))
    · exact .inl (ip k hk)
    · rcases k3 with e2 | ⟨y, e2, hy⟩
      · rw [e2] at hk; exact .inl (ie k hk)
      · rw [e2] at hk; cases hk; exact .inr (.inr hy)
    · exact .inl (iP x hx k hk)
    · rcases List.mem_append.1 hx with hx | hx
      · exact .inl (iE x hx k hk)
      · have : x = ⟨.slice a n cap, nilV, n, c + 1⟩ := by simpa using hx
        subst this; exact .inr (.inl hk)
  have hSP : ∀ x ∈ P, ∀ k, vblock x.v = some k → ¬ (k = b ∨ vblock te = some k) := fun x hx k hk hS => hS.elim (fun e => p3 x hx k (by rw [e]) hk) fun e => p8 x hx k e hk
  have hSE : ∀ x ∈ E, ∀ k, vblock x.v = some k → ¬ (k = b ∨ vblock te = some k) := fun x hx k hk hS => hS.elim (fun e => p4 x hx k (by rw [e]) hk) fun e => p9 x hx k e hk
  have hSv : ∀ k, vblock (.slice a n cap) = some k → ¬ (k = b ∨ vblock te = some k) := fun k hk hS => (hfr k hk).1 (h.cases.2 (hS.imp id fun e => .inr (.inl e)))
  have hSt : ∀ k, vblock tp = some k → ¬ (k = b ∨ vblock te = some k) := fun k hk hS => hS.elim (fun e => p1 k (by rw [e]) hk) fun e => p5 k hk e
  have hbl : ∀ k, some b = some k → k < w.heap.size := fun k hk => lt k (ib k hk)
  refine ⟨⟨te', fun k => some k ∈ blocksX b tp te' P (E ++ [⟨.slice a n cap, nilV, n, c + 1⟩]), ⟨h.base.chg hS h.old, k1, h.rowP.chg k4 hSt, k2, fun k => Iff.rfl, ?_, fun k hk => ?_, by rw [List.length_append, List.length_singleton]; omega, by omega, fun x hx => ?_, fun x hx => ?_, fun x hx => ?_, fun x hx => ?_⟩, hall⟩, hS⟩
  · unfold blocksX
    refine List.pairwise_cons.2 ⟨fun o ho => ?_, List.pairwise_cons.2 ⟨fun o ho => ?_, List.pairwise_cons.2 ⟨fun o ho => ?_, List.pairwise_append.2 ⟨p10, ?_, fun o ho o' ho' => ?_⟩⟩⟩⟩
    · simp only [List.mem_cons, List.mem_append, List.map_append, List.map_cons, List.map_nil, List.mem_map, List.not_mem_nil, or_false] at ho
      rcases ho with rfl | rfl | ⟨x, hx, rfl⟩ | ⟨x, hx, rfl⟩ | rfl
      · exact p1
      · exact hnew _ hbl p2
      · exact p3 x hx
      · exact p4 x hx
      · exact offv _ ib
    · simp only [List.mem_cons, List.mem_append, List.map_append, List.map_cons, List.map_nil, List.mem_map, List.not_mem_nil, or_false] at ho
      rcases ho with rfl | ⟨x, hx, rfl⟩ | ⟨x, hx, rfl⟩ | rfl
      · exact hnew _ (fun k hk => lt k (ip k hk)) p5
      · exact p6 x hx
      · exact p7 x hx
      · exact offv _ ip
    · simp only [List.mem_append, List.map_append, List.map_cons, List.map_nil, List.mem_cons, List.mem_map, List.not_mem_nil, or_false] at ho
      rcases ho with ⟨x, hx, rfl⟩ | ⟨x, hx, rfl⟩ | rfl
      · exact Off.symm (hnew _ (fun k hk => lt k (iP x hx k hk)) (Off.symm (p8 x hx)))
      · exact Off.symm (hnew _ (fun k hk => lt k (iE x hx k hk)) (Off.symm (p9 x hx)))
      · exact Off.symm (hnew _ lv (Off.symm (offv _ ie)))
    · rw [List.map_append]
      refine List.pairwise_append.2 ⟨p11, List.pairwise_singleton _ _, fun o ho o' ho' => ?_⟩
      obtain ⟨x, hx, rfl⟩ := List.mem_map.1 ho
      have : o' = vblock (.slice a n cap) := by simpa using ho'
      rw [this]
      exact offv _ (iE x hx)
    · obtain ⟨y, hy, rfl⟩ := List.mem_map.1 ho'
      obtain ⟨x, hx, rfl⟩ := List.mem_map.1 ho
      rcases List.mem_append.1 hy with hy | hy
      · exact p12 x hx y hy
      · have : y = ⟨.slice a n cap, nilV, n, c + 1⟩ := by simpa using hy
        subst this
        exact offv _ (iP x hx)
  · rcases hall k hk with hk | hk | hk
    · exact h.old k hk
    · exact (hfr k hk).2
    · have := h.base.bel.size; omega
  · simp only [List.mem_append, List.mem_singleton] at hx
    rcases hx with hx | hx | rfl
    · exact h.small x (by simp [hx])
    · exact h.small x (by simp [hx])
    · exact ⟨hn, by show c + 1 ≤ _; omega⟩
  · obtain ⟨ys, hs⟩ := h.gotP x hx
    exact ⟨ys, hs.chg k4 (hSP x hx)⟩
  · rcases List.mem_append.1 hx with hx | hx
    · obtain ⟨ys, hs⟩ := h.gotE x hx
      exact ⟨ys, hs.chg k4 (hSE x hx)⟩
    · have : x = ⟨.slice a n cap, nilV, n, c + 1⟩ := by simpa using hx
      subst this
      exact ⟨xs, hv.chg k4 hSv⟩
  · simp only [List.mem_append, List.mem_singleton] at hx
    rcases hx with hx | hx | rfl
    · exact h.gnil x (by simp [hx])
    · exact h.gnil x (by simp [hx])
    · rfl
end
end Go.Proofs.YtmaemgihhipllaaGreatDoor

/- The book of pairs and entries: one kind's walk leaves the other kind alone. -/
namespace Go.Proofs.YtmaemgihhipllaaGreatDoor
set_option linter.unusedVariables false
set_option linter.unusedSimpArgs false
open Go.RowKit
theorem Holds.chg {w w' : World} {b I : Nat} {HT e : TypeId} {z : Nat} {tv : Value} {E : List Held} (h : Holds w b I HT e z tv E) {S : Nat → Prop} (hc : Chg S w w') (hb : ¬ S b) (ht : ∀ k, vblock tv = some k → ¬ S k) (hE : ∀ k, blocksV E k → ¬ S k) : Holds w' b I HT e z tv E := by
  obtain ⟨cs, h1, h2⟩ := h.head
  exact { h with head := ⟨cs, hc.keep h1 hb, h2⟩, row := h.row.chg hc ht, got := fun x hx => by obtain ⟨xs, hs⟩ := h.got x hx; exact ⟨xs, hs.chg hc fun k hk => hE k ⟨x, hx, hk⟩⟩ }
theorem Grown.chg {w w' : World} {b I : Nat} {HT : TypeId} {z : Nat} {mk : Nat → List Value} {tv : Value} {E : List Held} (h : Grown w b I HT z mk tv E) {S : Nat → Prop} (hc : Chg S w w') (hb : ¬ S b) (ht : ∀ k, vblock tv = some k → ¬ S k) (hE : ∀ x ∈ E, ∀ k, vblock x.v = some k ∨ vblock x.g = some k → ¬ S k) : Grown w' b I HT z mk tv E := by
  obtain ⟨cs, h1, h2⟩ := h.head
  exact { h with head := ⟨cs, hc.keep h1 hb, h2⟩, row := h.row.chg hc ht, got := fun x hx => ⟨(h.got x hx).1.chg hc fun k hk => hE x hx k (.inl hk), (h.got x hx).2.chg hc fun k hk => hE x hx k (.inr hk)⟩ }
theorem Agree.mem {E E' : List Held} (h : Agree E E') {x : Held} (hx : x ∈ E') : ∃ y ∈ E, x.v = y.v ∧ x.n = y.n ∧ x.m = y.m := by
  obtain ⟨j, hj, rfl⟩ := List.getElem_of_mem hx
  have hj0 : j < E.length := by rw [← h.1]; exact hj
  exact ⟨_, List.getElem_mem hj0, h.2 j hj0 hj⟩
end Go.Proofs.YtmaemgihhipllaaGreatDoor

/- The book of pairs and entries: Apart. (Printed by gen_bkx6.py.) -/
namespace Go.Proofs.YtmaemgihhipllaaGreatDoor
set_option linter.unusedVariables false
set_option linter.unusedSimpArgs false
open Go.RowKit
set_option maxHeartbeats 6400000 in
set_option maxRecDepth 100000 in
theorem BookX.apart_any {w0 w : World} {b c : Nat} {tp te : Value} {P E : List Held} {Bk : Nat → Prop} (h : BookX w0 w b c tp te P E Bk) :
    Calls Tryz.prog 8 #[bkp b] w fun e w' => e = .returned (.bool true) ∧ Chg Bk w w' := by
  have iP : ∀ k, blocksV P k → Bk k := fun k hk => h.cases.2 (.inr (.inr (.inr (.inl hk))))
  have iE : ∀ k, blocksV E k → Bk k := fun k hk => h.cases.2 (.inr (.inr (.inr (.inr hk))))
  have it : ∀ k, vblock tp = some k → Bk k := fun k hk => h.cases.2 (.inr (.inl hk))
  have ie : ∀ k, vblock te = some k → Bk k := fun k hk => h.cases.2 (.inr (.inr (.inl hk)))
  obtain ⟨⟨p1, p2, p3, p4⟩, ⟨p5, p6, p7⟩, ⟨p8, p9⟩, p10, p11, p12⟩ := h.parts
  have bP : ¬ blocksV P b := fun ⟨x, hx, e⟩ => p3 x hx b rfl e
  have bE : ¬ blocksV E b := fun ⟨x, hx, e⟩ => p4 x hx b rfl e
  have tpP : ∀ k, vblock tp = some k → ¬ blocksV P k := fun k hk ⟨x, hx, e⟩ => p6 x hx k hk e
  have tpE : ∀ k, vblock tp = some k → ¬ blocksV E k := fun k hk ⟨x, hx, e⟩ => p7 x hx k hk e
  have teP : ∀ k, vblock te = some k → ¬ blocksV P k := fun k hk ⟨x, hx, e⟩ => p8 x hx k hk e
  have teE : ∀ k, vblock te = some k → ¬ blocksV E k := fun k hk ⟨x, hx, e⟩ => p9 x hx k hk e
  have PE : ∀ k, blocksV P k → ¬ blocksV E k := fun k ⟨x, hx, e⟩ ⟨y, hy, e2⟩ => p12 x hx y hy k e e2
  have sP : ∀ k, blocksV P k ∨ vblock tp = some k → Bk k := fun k hk => hk.elim (iP k) (it k)
  have sE : ∀ k, blocksV E k ∨ vblock te = some k → Bk k := fun k hk => hk.elim (iE k) (ie k)
  have bP2 : ¬ (blocksV P b ∨ vblock tp = some b) := fun hk => hk.elim bP fun e => p1 b rfl e
  have bE2 : ¬ (blocksV E b ∨ vblock te = some b) := fun hk => hk.elim bE fun e => p2 b rfl e
  have HB := Lib.hid (And.intro iP (And.intro iE (And.intro it ie)))
  have HN := Lib.hid (And.intro bP (And.intro bE (And.intro tpP (And.intro tpE (And.intro teP (And.intro teE PE))))))
  have HS := Lib.hid (And.intro sP (And.intro sE (And.intro bP2 (And.intro bE2 p5))))
  have HH := Lib.hid h
  have HD0 := Lib.hid h.head
  have HPL := Lib.hid (show ∀ k, Bk k → k < w.heap.size from fun k hk => h.lt hk)
  have gP : ∀ x ∈ P, x.g = .slice none 0 0 := fun x hx => h.gnil x (by simp [hx])
  have gE : ∀ x ∈ E, x.g = .slice none 0 0 := fun x hx => h.gnil x (by simp [hx])
  have HG := Lib.hid (And.intro gP gE)
  have HF1 := Lib.hid (fillPair_any h.base h.holdsP (fun k hk => h.old k (iP k hk)) gP)
  clear h iP iE it ie p1 p2 p3 p4 p5 p6 p7 p8 p9 p10 p11 p12 bP bE tpP tpE teP teE PE sP sE bP2 bE2 gP gE
  have HfillByte := Lib.hid (fillByte_none HD0.out (show (bookX c tp te)[1]? = some nilV from rfl))
  have HfillInt := Lib.hid (fillInt_none HD0.out (show (bookX c tp te)[2]? = some nilV from rfl))
  have HfillText := Lib.hid (fillText_none HD0.out (show (bookX c tp te)[3]? = some nilV from rfl))
  go_enter Tryz.func8, Tryz.ntmps8
  go_wp2_with fail
  refine HfillByte.out.mono ?_
  rintro e w' ⟨⟨v, rfl⟩, rfl⟩
  go_wp2_with fail
  refine HfillInt.out.mono ?_
  rintro e w' ⟨⟨v, rfl⟩, rfl⟩
  go_wp2_with fail
  refine HfillText.out.mono ?_
  rintro e w' ⟨⟨v, rfl⟩, rfl⟩
  go_wp2_with fail
  refine HF1.out.mono ?_
  rintro e w1 ⟨⟨v, rfl⟩, hm1, hc1⟩
  have B1 := Lib.hid (HH.out.base.chg hc1 fun k hk => HH.out.old k (HB.out.1 k hk))
  have C1 := Lib.hid (show Chg Bk w w1 from hc1.mono fun k hk _ => HB.out.1 k hk)
  have HD1 := Lib.hid (hc1.keep HD0.out HN.out.1)
  have P1 := Lib.hid (show Holds w1 b 4 106 68 2 tp P from { HH.out.holdsP with head := ⟨_, HD1.out, rfl⟩, row := HH.out.rowP.chg hc1 HN.out.2.2.1, got := fun x hx => ⟨_, hm1 x hx⟩ })
  have E1 := Lib.hid (HH.out.holdsE.chg hc1 HN.out.1 HN.out.2.2.2.2.1 fun k hk hP => HN.out.2.2.2.2.2.2 k hP hk)
  have M1 := Lib.hid hm1
  have HF2 := Lib.hid (fillEntry_any B1.out E1.out (fun k hk => HH.out.old k (HB.out.2.1 k hk)) HG.out.2)
  clear hm1 hc1
  have HfillScored := Lib.hid (fillScored_none HD1.out (show (bookX c tp te)[5]? = some nilV from rfl))
  go_wp2_with fail
  refine HfillScored.out.mono ?_
  rintro e w' ⟨⟨v, rfl⟩, rfl⟩
  go_wp2_with fail
  refine HF2.out.mono ?_
  rintro e w2 ⟨⟨v, rfl⟩, hm2, hc2⟩
  have B2 := Lib.hid (B1.out.chg hc2 fun k hk => HH.out.old k (HB.out.2.1 k hk))
  have C2 := Lib.hid (show Chg Bk w w2 from C1.out.trans hc2 fun k hk _ => HB.out.2.1 k hk)
  have HD2 := Lib.hid (hc2.keep HD1.out HN.out.2.1)
  have P2 := Lib.hid (P1.out.chg hc2 HN.out.2.1 HN.out.2.2.2.1 HN.out.2.2.2.2.2.2)
  have E2 := Lib.hid (show Holds w2 b 6 81 50 3 te E from { E1.out with head := ⟨_, HD2.out, rfl⟩, row := E1.out.row.chg hc2 HN.out.2.2.2.2.2.1, got := fun x hx => ⟨_, hm2 x hx⟩ })
  have M2 := Lib.hid hm2
  have HG1 := Lib.hid (growPair_any B2.out P2.out (fun k hk => HH.out.old k (HB.out.1 k hk)) HG.out.1 (fun x hx => (M1.out x hx).chg hc2 fun k hk => HN.out.2.2.2.2.2.2 k ⟨x, hx, hk⟩) (fun k hk => HH.out.old k (HB.out.2.2.1 k hk)) fun e => HS.out.2.2.1 (.inr e))
  clear hm2 hc2
  have HfillItem := Lib.hid (fillItem_none HD2.out (show (bookX c tp te)[7]? = some nilV from rfl))
  have HfillCommand := Lib.hid (fillCommand_none HD2.out (show (bookX c tp te)[8]? = some nilV from rfl))
  have HfillReply := Lib.hid (fillReply_none HD2.out (show (bookX c tp te)[9]? = some nilV from rfl))
  have HgrowByte := Lib.hid (growByte_none HD2.out (show (bookX c tp te)[1]? = some nilV from rfl))
  have HgrowInt := Lib.hid (growInt_none HD2.out (show (bookX c tp te)[2]? = some nilV from rfl))
  have HgrowText := Lib.hid (growText_none HD2.out (show (bookX c tp te)[3]? = some nilV from rfl))
  go_wp2_with fail
  refine HfillItem.out.mono ?_
  rintro e w' ⟨⟨v, rfl⟩, rfl⟩
  go_wp2_with fail
  refine HfillCommand.out.mono ?_
  rintro e w' ⟨⟨v, rfl⟩, rfl⟩
  go_wp2_with fail
  refine HfillReply.out.mono ?_
  rintro e w' ⟨⟨v, rfl⟩, rfl⟩
  go_wp2_with fail
  refine HgrowByte.out.mono ?_
  rintro e w' ⟨⟨v, rfl⟩, rfl⟩
  go_wp2_with fail
  refine HgrowInt.out.mono ?_
  rintro e w' ⟨⟨v, rfl⟩, rfl⟩
  go_wp2_with fail
  refine HgrowText.out.mono ?_
  rintro e w' ⟨⟨v, rfl⟩, rfl⟩
  go_wp2_with fail
  refine HG1.out.mono ?_
  rintro e w3 ⟨⟨v, rfl⟩, ⟨P', hg3, ha3, hn3⟩, hc3⟩
  have B3 := Lib.hid (B2.out.chg hc3 fun k hk => HH.out.old k (HS.out.1 k hk))
  have C3 := Lib.hid (show Chg Bk w w3 from C2.out.trans hc3 fun k hk _ => HS.out.1 k hk)
  have HD3 := Lib.hid (hc3.keep HD2.out HS.out.2.2.1)
  have nE : ∀ k, blocksV E k → ¬ (blocksV P k ∨ vblock tp = some k) := fun k hk hP => hP.elim (fun hP => HN.out.2.2.2.2.2.2 k hP hk) fun e => HN.out.2.2.2.1 k e hk
  have E3 := Lib.hid (E2.out.chg hc3 HS.out.2.2.1 (fun k hk hP => hP.elim (HN.out.2.2.2.2.1 k hk) fun e => HS.out.2.2.2.2 k e hk) nE)
  have G3 := Lib.hid (And.intro hg3 (And.intro ha3 hn3))
  have L3 := Lib.hid (show ∀ k, Bk k → k < w2.heap.size from fun k hk => Nat.lt_of_lt_of_le (HPL.out k hk) C2.out.size)
  have HG2 := Lib.hid (growEntry_any B3.out E3.out (fun k hk => HH.out.old k (HB.out.2.1 k hk)) HG.out.2 (fun x hx => (M2.out x hx).chg hc3 fun k hk => nE k ⟨x, hx, hk⟩) (fun k hk => HH.out.old k (HB.out.2.2.2 k hk)) fun e => HS.out.2.2.2.1 (.inr e))
  clear hg3 ha3 hn3 hc3 nE
  have HgrowScored := Lib.hid (growScored_none HD3.out (show (bookX c tp te)[5]? = some nilV from rfl))
  go_wp2_with fail
  refine HgrowScored.out.mono ?_
  rintro e w' ⟨⟨v, rfl⟩, rfl⟩
  go_wp2_with fail
  refine HG2.out.mono ?_
  rintro e w4 ⟨⟨v, rfl⟩, ⟨E', hg4, _⟩, hc4⟩
  have B4 := Lib.hid (B3.out.chg hc4 fun k hk => HH.out.old k (HS.out.2.1 k hk))
  have C4 := Lib.hid (show Chg Bk w w4 from C3.out.trans hc4 fun k hk _ => HS.out.2.1 k hk)
  have HD4 := Lib.hid (hc4.keep HD3.out HS.out.2.2.2.1)
  have G4 := Lib.hid (show Grown w4 b 4 106 2 markP tp P' from G3.out.1.chg hc4 HS.out.2.2.2.1 (fun k hk hE => hE.elim (HN.out.2.2.2.1 k hk) fun e => HS.out.2.2.2.2 k hk e) fun x hx k hk hE => by
    obtain ⟨y, hy, e1, _⟩ := G3.out.2.1.mem hx
    have hv : vblock x.v = some k → False := fun hk => by
      rw [e1] at hk
      exact hE.elim (HN.out.2.2.2.2.2.2 k ⟨y, hy, hk⟩) fun e => HN.out.2.2.2.2.1 k e ⟨y, hy, hk⟩
    rcases hk with hk | hk
    · exact hv hk
    · rcases G3.out.2.2 x hx with e | ⟨z, e, hz⟩
      · rw [e] at hk; exact hv hk
      · rw [e] at hk; cases hk
        have := L3.out k (HS.out.2.1 k hE); omega)
  have HL1 := Lib.hid (lookPair_any B4.out G4.out)
  have G4E := Lib.hid hg4
  clear hg4 hc4
  have HgrowItem := Lib.hid (growItem_none HD4.out (show (bookX c tp te)[7]? = some nilV from rfl))
  have HgrowCommand := Lib.hid (growCommand_none HD4.out (show (bookX c tp te)[8]? = some nilV from rfl))
  have HgrowReply := Lib.hid (growReply_none HD4.out (show (bookX c tp te)[9]? = some nilV from rfl))
  have HlookByte := Lib.hid (lookByte_none HD4.out (show (bookX c tp te)[1]? = some nilV from rfl))
  have HlookInt := Lib.hid (lookInt_none HD4.out (show (bookX c tp te)[2]? = some nilV from rfl))
  have HlookText := Lib.hid (lookText_none HD4.out (show (bookX c tp te)[3]? = some nilV from rfl))
  go_wp2_with fail
  refine HgrowItem.out.mono ?_
  rintro e w' ⟨⟨v, rfl⟩, rfl⟩
  go_wp2_with fail
  refine HgrowCommand.out.mono ?_
  rintro e w' ⟨⟨v, rfl⟩, rfl⟩
  go_wp2_with fail
  refine HgrowReply.out.mono ?_
  rintro e w' ⟨⟨v, rfl⟩, rfl⟩
  go_wp2_with fail
  refine HlookByte.out.mono ?_
  rintro e w' ⟨rfl, rfl⟩
  go_wp2_with fail
  refine HlookInt.out.mono ?_
  rintro e w' ⟨rfl, rfl⟩
  go_wp2_with fail
  refine HlookText.out.mono ?_
  rintro e w' ⟨rfl, rfl⟩
  go_wp2_with fail
  refine HL1.out.mono ?_
  rintro e w5 ⟨rfl, b5⟩
  have HD5 := Lib.hid ((Chg.of_below (fun _ => False) b5).keep HD4.out id)
  have C5 := Lib.hid (C4.out.trans (Chg.of_below Bk b5) fun k hk _ => hk)
  have HL2 := Lib.hid (lookEntry_any (B4.out.below b5) (G4E.out.chg (Chg.of_below (fun _ => False) b5) id (fun _ _ => id) fun _ _ _ _ => id))
  clear b5
  have HlookScored := Lib.hid (lookScored_none HD5.out (show (bookX c tp te)[5]? = some nilV from rfl))
  go_wp2_with fail
  refine HlookScored.out.mono ?_
  rintro e w' ⟨rfl, rfl⟩
  go_wp2_with fail
  refine HL2.out.mono ?_
  rintro e w6 ⟨rfl, b6⟩
  have HD6 := Lib.hid ((Chg.of_below (fun _ => False) b6).keep HD5.out id)
  have C6 := Lib.hid (C5.out.trans (Chg.of_below Bk b6) fun k hk _ => hk)
  clear b6
  have HlookItem := Lib.hid (lookItem_none HD6.out (show (bookX c tp te)[7]? = some nilV from rfl))
  have HlookCommand := Lib.hid (lookCommand_none HD6.out (show (bookX c tp te)[8]? = some nilV from rfl))
  have HlookReply := Lib.hid (lookReply_none HD6.out (show (bookX c tp te)[9]? = some nilV from rfl))
  go_wp2_with fail
  refine HlookItem.out.mono ?_
  rintro e w' ⟨rfl, rfl⟩
  go_wp2_with fail
  refine HlookCommand.out.mono ?_
  rintro e w' ⟨rfl, rfl⟩
  go_wp2_with fail
  refine HlookReply.out.mono ?_
  rintro e w' ⟨rfl, rfl⟩
  go_wp2_with fail
  go_ret
  exact ⟨rfl, C6.out⟩
end Go.Proofs.YtmaemgihhipllaaGreatDoor

/- The book of pairs and entries: its methods. (Pairs is not of the seat r6.ZD: not built there.) -/
namespace Go.Proofs.YtmaemgihhipllaaGreatDoor
set_option linter.unusedVariables false
set_option linter.unusedSimpArgs false
open Go.RowKit
set_option maxHeartbeats 800000 in
set_option maxRecDepth 100000 in
theorem pairs_any {w : World} {b c : Nat} {cs : Array Value} {tv : Value} {E : List Held} (hb : w.heap[b]? = some (.cells cs 35 (0, 0))) (h0 : cs[0]? = some (.int .i64 (c : Int))) (hI : cs[4]? = some tv)
    (hrow : SliceN w 0 106 3 tv E.length (heldC E)) (hbt : vblock tv ≠ some b) (hc : c ≤ 1000000) (hE : E.length ≤ 1000000) (a : Option Addr) (n cap : Nat) :
    Calls Tryz.prog 16 #[bkp b, .slice a n cap] w fun e w' => (∃ v, e = .returned v) ∧ Kept w b 4 106 cs c tv E (.slice a n cap) n w' := by
  have HK := Lib.hid (keepPair_any hb h0 hI hrow hbt hc hE a n cap)
  clear hb h0 hI hrow hbt hE
  go_enter Tryz.func16, Tryz.ntmps16
  go_wp2_with fail
  refine HK.out.mono ?_
  rintro e w' ⟨⟨v, rfl⟩, hk⟩
  have HE := Lib.hid hk
  clear hk
  go_wp2_with fail
  go_end0
  exact ⟨⟨_, rfl⟩, HE.out⟩
end Go.Proofs.YtmaemgihhipllaaGreatDoor

/- radix: bytes, alike, New, Len. -/
namespace Go.Proofs.YtmaemgihhipllaaGreatDoor
set_option linter.unusedVariables false
set_option linter.unusedSimpArgs false
open Go.RowKit
/-- The first j bytes of a number, the highest first. -/
def beB (n j : Nat) : List UInt8 := (List.range j).map fun i => UInt8.ofNat (n / 2 ^ (56 - 8 * i))
theorem beB_succ (n j : Nat) : beB n (j + 1) = beB n j ++ [UInt8.ofNat (n / 2 ^ (56 - 8 * j))] := by simp [beB, List.range_succ]
@[simp] theorem beB_length (n j : Nat) : (beB n j).length = j := by simp [beB]
def idBytes (ms seq : Nat) : List UInt8 := beB ms 8 ++ beB seq 8
theorem u8v_be (n k : Nat) : u8v (UInt8.ofNat (n / 2 ^ k)) = .int .u8 ((n : Int) / 2 ^ k % 256) := by
  rw [u8v_of]
  simp
set_option maxHeartbeats 1600000 in
set_option maxRecDepth 100000 in
theorem bytes_any (ms seq : Nat) (h1 : ms < 18446744073709551616) (h2 : seq < 18446744073709551616) (w : World) :
    Calls Tryz.prog 63 #[.agg #[.int .u64 ms, .int .u64 seq]] w fun e w' => ∃ v, e = .returned v ∧ SliceIs w' w.heap.size 5 v 16 ((idBytes ms seq).map u8v) ∧ Below w.heap.size w w' := by
  obtain ⟨w1, hw1⟩ : ∃ w1, w1 = w.alloc (.cells #[.int .u64 ms, .int .u64 seq] 41) := ⟨_, rfl⟩
  have hb1 : Below w.heap.size w w1 := by rw [hw1]; exact (Below.refl _ _).alloc (Nat.le_refl _) _
  have hq : w1.heap[w.heap.size]? = some (.cells #[.int .u64 ms, .int .u64 seq] 41 (0, 0)) := by rw [hw1]; exact heap_new _ _
  have hlt : w.heap.size < w1.heap.size := heap_lt hq
  have HW := Lib.hid hw1
  have HQ := Lib.hid hq
  have HB := Lib.hid hb1
  clear hw1 hq hb1
  go_enter Tryz.func63, Tryz.ntmps63
  go_wp2_with fail
  rw [← HW.out]
  go_loopw [2, 3] (fun l i wr => ∃ j : Nat, j ≤ 8 ∧ i = .int .i64 (56 - 8 * (j : Int)) ∧ Hid (SliceIs wr w1.heap.size 5 l j ((beB ms j).map u8v) ∧ Below w1.heap.size w1 wr)) (fun _ i _ => (intOf i + 8).toNat)
  case atStart => exact ⟨0, by omega, rfl, Lib.hid ⟨SliceIs.nil _ _ _, Below.refl _ _⟩⟩
  case round =>
    obtain ⟨j, hj, rfl, hI⟩ := hrel
    have e0 : wr.cell? ⟨w.heap.size, 0, none⟩ = some (.int .u64 ms) := by rw [hI.out.2.cell hlt]; exact cell_in HQ.out (i := 0) rfl
    by_cases hlt2 : j < 8
    · obtain ⟨v2, w2, r2, s2, b2⟩ := append8 hI.out.1 hI.out.2.size (UInt8.ofNat (ms / 2 ^ (56 - 8 * j))) (by omega)
      rw [← beB_succ] at s2
      rw [u8v_be] at r2
      have HR2 := Lib.hid r2
      have HNw := Lib.hid (And.intro s2 (hI.out.2.trans b2))
      clear s2 b2 r2 hI
      go_wp2_with (at_builtin; refine wpList_append_run rfl rfl HR2.out ?_)
      go_roundw
      case rel => exact ⟨j + 1, by omega, by go_num, HNw⟩
      case measure => simp [intOf]; omega
    · have : j = 8 := by omega
      subst this
      have HI1 := hI
      clear hI e0
      rw [show (56 : Int) - 8 * ((8 : Nat) : Int) = -8 from rfl]
      go_wp2_with fail
      go_loopw [2, 4] (fun l i wr => ∃ j : Nat, j ≤ 8 ∧ i = .int .i64 (56 - 8 * (j : Int)) ∧ Hid (SliceIs wr w1.heap.size 5 l (8 + j) ((beB ms 8 ++ beB seq j).map u8v) ∧ Below w1.heap.size w1 wr)) (fun _ i _ => (intOf i + 8).toNat)
      case atStart => exact ⟨0, by omega, rfl, by simpa [beB] using HI1⟩
      case round =>
        obtain ⟨j, hj, rfl, hI⟩ := hrel
        have e0 : wr.cell? ⟨w.heap.size, 1, none⟩ = some (.int .u64 seq) := by rw [hI.out.2.cell hlt]; exact cell_in HQ.out (i := 1) rfl
        by_cases hlt2 : j < 8
        · obtain ⟨v2, w2, r2, s2, b2⟩ := append8 hI.out.1 hI.out.2.size (UInt8.ofNat (seq / 2 ^ (56 - 8 * j))) (by omega)
          rw [List.append_assoc, ← beB_succ] at s2
          rw [u8v_be] at r2
          have HR2 := Lib.hid r2
          have HNw := Lib.hid (And.intro s2 (hI.out.2.trans b2))
          clear s2 b2 r2 hI
          go_wp2_with (at_builtin; refine wpList_append_run rfl rfl HR2.out ?_)
          go_roundw
          case rel => exact ⟨j + 1, by omega, by go_num, HNw⟩
          case measure => simp [intOf]; omega
        · have : j = 8 := by omega
          subst this
          go_wp2_with fail
          go_ret
          exact ⟨_, rfl, hI.out.1.mono (by omega), HB.out.trans (hI.out.2.mono (by omega))⟩
end Go.Proofs.YtmaemgihhipllaaGreatDoor

/- radix: alike. -/
namespace Go.Proofs.YtmaemgihhipllaaGreatDoor
set_option linter.unusedVariables false
set_option linter.unusedSimpArgs false
open Go.RowKit
/-- How many bytes two rows begin alike with. -/
def alikeN : List UInt8 → List UInt8 → Nat
  | x :: a, y :: b => if x = y then alikeN a b + 1 else 0
  | _, _ => 0
theorem alikeN_eq : ∀ (a b : List UInt8) (k : Nat), k ≤ a.length → k ≤ b.length → (∀ j, j < k → a.getD j 0 = b.getD j 0) → (k = a.length ∨ k = b.length ∨ a.getD k 0 ≠ b.getD k 0) → alikeN a b = k
  | [], b, k, h1, _, _, _ => by simp at h1; simp [alikeN, h1]
  | x :: a, [], k, _, h2, _, _ => by simp at h2; simp [alikeN, h2]
  | x :: a, y :: b, 0, _, _, _, h4 => by
    have : x ≠ y := by simpa using h4
    simp [alikeN, this]
  | x :: a, y :: b, k + 1, h1, h2, h3, h4 => by
    have e : x = y := by simpa using h3 0 (by omega)
    have := alikeN_eq a b k (by simpa using h1) (by simpa using h2) (fun j hj => by simpa using h3 (j + 1) (by omega)) (by simpa using h4)
    simp [alikeN, e, this]
theorem alikeN_le : ∀ (a b : List UInt8), alikeN a b ≤ a.length ∧ alikeN a b ≤ b.length
  | [], b => by simp [alikeN]
  | x :: a, [] => by simp [alikeN]
  | x :: a, y :: b => by
    have := alikeN_le a b
    simp only [alikeN]
    split <;> simp <;> omega
theorem alikeN_take : ∀ (a b : List UInt8), a.take (alikeN a b) = b.take (alikeN a b)
  | [], b => by simp [alikeN]
  | x :: a, [] => by simp [alikeN]
  | x :: a, y :: b => by
    have := alikeN_take a b
    simp only [alikeN]
    split
    · next h => simp [h, this]
    · simp
/-- A row of bytes that is only read. -/
def BytesIn (w : World) (a : Option Addr) (xs : List UInt8) (cap : Nat) : Prop :=
  xs.length ≤ cap ∧ (xs.length = 0 ∨ ∃ b o, a = some ⟨b, o, none⟩ ∧ ∀ i, i < xs.length → w.cell? ⟨b, o + i, none⟩ = some (.int .u8 (xs.getD i 0).toNat))
set_option maxHeartbeats 800000 in
set_option maxRecDepth 100000 in
theorem alike_any {w : World} {a b : Option Addr} {xs ys : List UInt8} {ca cb : Nat} (ha : BytesIn w a xs ca) (hb : BytesIn w b ys cb) (hx : xs.length ≤ 1000000) (hy : ys.length ≤ 1000000) :
    Calls Tryz.prog 91 #[.slice a xs.length ca, .slice b ys.length cb] w fun e w' => e = .returned (.int .i64 (alikeN xs ys)) ∧ ∃ n, w' = w.drewN n := by
  have HA := Lib.hid ha
  have HB := Lib.hid hb
  have hca := ha.1
  have hcb := hb.1
  clear ha hb
  go_enter Tryz.func91, Tryz.ntmps91
  go_wp2_with fail
  go_loopw [5] (fun i wr => ∃ k : Nat, k ≤ xs.length ∧ k ≤ ys.length ∧ i = .int .i64 k ∧ (∃ m, wr = w.drewN m) ∧ Hid (∀ j, j < k → xs.getD j 0 = ys.getD j 0)) (fun i _ => xs.length - (intOf i).toNat)
  case atStart => exact ⟨0, Nat.zero_le _, Nat.zero_le _, rfl, ⟨0, rfl⟩, Lib.hid fun j h => by omega⟩
  case round =>
    obtain ⟨k, hk1, hk2, rfl, ⟨m, rfl⟩, hI⟩ := hrel
    by_cases hlt : k < xs.length ∧ k < ys.length
    · obtain ⟨b1, o1, ha, hc1⟩ := HA.out.2.resolve_left (by omega)
      obtain ⟨b2, o2, hb, hc2⟩ := HB.out.2.resolve_left (by omega)
      subst ha hb
      have e1 : (w.drewN m).cell? ⟨b1, o1 + k, none⟩ = some (.int .u8 (xs.getD k 0).toNat) := hc1 k hlt.1
      have e2 : (w.drewN m).cell? ⟨b2, o2 + k, none⟩ = some (.int .u8 (ys.getD k 0).toNat) := hc2 k hlt.2
      have HE := Lib.hid (show ((((xs.getD k 0).toNat : Nat) : Int) == (((ys.getD k 0).toNat : Nat) : Int)) = decide (xs.getD k 0 = ys.getD k 0) by
        rw [Bool.eq_iff_iff, beq_iff_eq, decide_eq_true_eq, Int.ofNat_inj, UInt8.toNat_inj])
      obtain ⟨l1, l2⟩ := hlt
      clear hc1 hc2
      have HNx : Hid (xs.getD k 0 = ys.getD k 0 → ∀ j, j < k + 1 → xs.getD j 0 = ys.getD j 0) := Lib.hid fun h j h1 => by
        by_cases hj : j = k
        · subst hj; exact h
        · exact hI.out j (by omega)
      have HEnd : Hid (xs.getD k 0 ≠ ys.getD k 0 → alikeN xs ys = k) := Lib.hid fun h => alikeN_eq xs ys k hk1 hk2 hI.out (.inr (.inr h))
      clear hI
      obtain ⟨X1, f, hX1, hf, hF⟩ := classOf (fun x => x.cell? ⟨b1, o1 + k, none⟩ = some (.int .u8 (xs.getD k 0).toNat) ∧ x.cell? ⟨b2, o2 + k, none⟩ = some (.int .u8 (ys.getD k 0).toNat)) ⟨e1, e2⟩
      have hf1 := fun x => (hf x).1
      have hf2 := fun x => (hf x).2
      have HF := Lib.hid (hF (w.drewN m).drew ⟨e1, e2⟩)
      clear hF hf
      generalize xs.getD k 0 = x at *
      generalize ys.getD k 0 = y at *
      rcases Bool.eq_false_or_eq_true (decide (x = y)) with hxy | hxy
      all_goals
        rw [hxy] at HE
        have hE := HE.out
        go_wp2_with fail
        refine wp_region_text ⟨[], [], 21⟩ (fun w' => ∃ x : X1, w' = f x) (by kernel_rfl) (by kernel_rfl) HF.out ?_
        refine wpC_seg false (HF.out) 21 0 _ _ (by rfl) (by rfl) ?_
        simp only [List.take_succ_cons, List.take_zero, List.drop_succ_cons, List.drop_zero, Bool.false_eq_true, if_false, Nat.zero_add, Nat.reduceAdd]
        repeat (go_big_quiet_step (fail))
        refine wpQuiet_nil ?_
        refine wpC_nil ?_
        clear hf1 hf2 hX1 HF
        go_wp2_with fail
        first
          | (go_roundw
             case rel => exact ⟨k + 1, by omega, by omega, by go_num, ⟨_, rfl⟩, Lib.hid (HNx.out (by simpa using hxy))⟩
             case measure => simp [intOf]; omega)
          | (go_ret
             exact ⟨ret1 (by rw [HEnd.out (by simpa using hxy)]; rfl), m + 1, rfl⟩)
    · have HEnd : Hid (alikeN xs ys = k) := Lib.hid (alikeN_eq xs ys k hk1 hk2 hI.out (by
        rcases Nat.lt_or_ge k xs.length with h | h
        · exact .inr (.inl (by omega))
        · exact .inl (by omega)))
      have e1 : decide ((k : Int) < (xs.length : Int)) = decide (k < xs.length) := by rw [decide_eq_decide]; omega
      have e2 : decide ((k : Int) < (ys.length : Int)) = decide (k < ys.length) := by rw [decide_eq_decide]; omega
      obtain ⟨X1, f, hX1, hf, hF⟩ := classOf (fun x : World => True) (w := (w.drewN m).drew) trivial
      have HF := Lib.hid (hF (w.drewN m).drew trivial)
      clear hF hf
      rcases Nat.lt_or_ge k xs.length with h | h
      · have e4 := decide_eq_true h
        have e3 := decide_eq_false (show ¬ k < ys.length from fun h2 => hlt ⟨h, h2⟩)
        clear hlt
        go_wp2_with fail
        refine wp_region_text ⟨[], [], 21⟩ (fun w' => ∃ x : X1, w' = f x) (by kernel_rfl) (by kernel_rfl) HF.out ?_
        refine wpC_seg false (HF.out) 21 0 _ _ (by rfl) (by rfl) ?_
        simp only [List.take_succ_cons, List.take_zero, List.drop_succ_cons, List.drop_zero, Bool.false_eq_true, if_false, Nat.zero_add, Nat.reduceAdd]
        repeat (go_big_quiet_step (fail))
        refine wpQuiet_nil ?_
        refine wpC_nil ?_
        clear hX1 HF
        go_wp2_with fail
        go_ret
        exact ⟨ret1 (by rw [HEnd.out]; rfl), m + 1, rfl⟩
      · have e3 := decide_eq_false (show ¬ k < xs.length by omega)
        clear hlt e2
        go_wp2_with fail
        refine wp_region_text ⟨[], [], 21⟩ (fun w' => ∃ x : X1, w' = f x) (by kernel_rfl) (by kernel_rfl) HF.out ?_
        refine wpC_seg false (HF.out) 21 0 _ _ (by rfl) (by rfl) ?_
        simp only [List.take_succ_cons, List.take_zero, List.drop_succ_cons, List.drop_zero, Bool.false_eq_true, if_false, Nat.zero_add, Nat.reduceAdd]
        repeat (go_big_quiet_step (fail))
        refine wpQuiet_nil ?_
        refine wpC_nil ?_
        clear hX1 HF
        go_wp2_with fail
        go_ret
        exact ⟨ret1 (by rw [HEnd.out]; rfl), m + 1, rfl⟩
theorem BytesIn.below {w w' : World} {a : Option Addr} {xs : List UInt8} {cap : Nat} (h : BytesIn w a xs cap) (hb : Below w.heap.size w w') : BytesIn w' a xs cap := by
  refine ⟨h.1, h.2.imp id ?_⟩
  rintro ⟨b, o, e, hc⟩
  exact ⟨b, o, e, fun i hi => (hb.cell (p := ⟨b, o + i, none⟩) (World.block_lt_of_cell? w _ (hc i hi))).trans (hc i hi)⟩
end Go.Proofs.YtmaemgihhipllaaGreatDoor

/- radix: identifiers' bytes rise as they do. -/
namespace Go.Proofs.YtmaemgihhipllaaGreatDoor
set_option linter.unusedVariables false
set_option linter.unusedSimpArgs false
/-- The number that bytes are, the highest first. -/
def valB : List UInt8 → Nat
  | [] => 0
  | x :: l => x.toNat * 256 ^ l.length + valB l
theorem valB_lt : ∀ l : List UInt8, valB l < 256 ^ l.length
  | [] => by simp [valB]
  | x :: l => by
    have h1 := valB_lt l
    have h2 := x.toNat_lt
    have h3 : (x.toNat + 1) * 256 ^ l.length ≤ 256 * 256 ^ l.length := Nat.mul_le_mul_right _ (by omega)
    rw [Nat.succ_mul] at h3
    simp only [valB, List.length_cons, Nat.pow_succ]
    omega
theorem valB_append : ∀ a b : List UInt8, valB (a ++ b) = valB a * 256 ^ b.length + valB b
  | [], b => by simp [valB]
  | x :: a, b => by
    have := valB_append a b
    simp only [List.cons_append, valB, this, List.length_append, Nat.pow_add, Nat.add_mul, Nat.mul_assoc]
    omega
theorem lt_valB : ∀ {a b : List UInt8}, a.length = b.length → (a < b ↔ valB a < valB b)
  | [], [], _ => by simp [valB]
  | [], y :: b, h => by simp at h
  | x :: a, [], h => by simp at h
  | x :: a, y :: b, h => by
    have hl : a.length = b.length := by simpa using h
    have ih := lt_valB hl
    have h1 := valB_lt a
    have h2 := valB_lt b
    rw [List.cons_lt_cons_iff, ih, UInt8.lt_iff_toNat_lt]
    simp only [valB, hl]
    rw [hl] at h1
    generalize 256 ^ b.length = P at *
    constructor
    · rintro (h | ⟨rfl, h⟩)
      · have : (x.toNat + 1) * P ≤ y.toNat * P := Nat.mul_le_mul_right _ h
        rw [Nat.succ_mul] at this
        omega
      · omega
    · intro h
      rcases Nat.lt_trichotomy x.toNat y.toNat with h3 | h3 | h3
      · exact .inl h3
      · rw [h3] at h
        exact .inr ⟨UInt8.toNat_inj.1 h3, by omega⟩
      · have : (y.toNat + 1) * P ≤ x.toNat * P := Nat.mul_le_mul_right _ h3
        rw [Nat.succ_mul] at this
        omega
theorem valB_be (n : Nat) (h : n < 18446744073709551616) : valB (beB n 8) = n := by
  simp only [beB, List.range, List.range.loop, List.map_cons, List.map_nil, valB, List.length_cons, List.length_nil, UInt8.toNat_ofNat']
  omega
theorem idBytes_length (ms seq : Nat) : (idBytes ms seq).length = 16 := by simp [idBytes]
theorem idBytes_lt {a b c d : Nat} (ha : a < 18446744073709551616) (hb : b < 18446744073709551616) (hc : c < 18446744073709551616) (hd : d < 18446744073709551616) :
    idBytes a b < idBytes c d ↔ a < c ∨ (a = c ∧ b < d) := by
  rw [lt_valB (by rw [idBytes_length, idBytes_length]), idBytes, idBytes, valB_append, valB_append, valB_be a ha, valB_be b hb, valB_be c hc, valB_be d hd, beB_length, beB_length]
  omega
theorem idBytes_inj {a b c d : Nat} (ha : a < 18446744073709551616) (hb : b < 18446744073709551616) (hc : c < 18446744073709551616) (hd : d < 18446744073709551616) (h : idBytes a b = idBytes c d) : a = c ∧ b = d := by
  have := congrArg valB h
  rw [idBytes, idBytes, valB_append, valB_append, valB_be a ha, valB_be b hb, valB_be c hc, valB_be d hd, beB_length, beB_length] at this
  omega
end Go.Proofs.YtmaemgihhipllaaGreatDoor

/- radix: trees in plain Lean. -/
namespace Go.Proofs.YtmaemgihhipllaaGreatDoor.Sad
open Go.Proofs.YtmaemgihhipllaaGreatDoor
set_option linter.unusedVariables false
set_option linter.unusedSimpArgs false
/-- A thing, as a cell, and the one that was not put. -/
abbrev VT : Type := Option Addr × Nat × Nat
abbrev vC (v : VT) : Value := .slice v.1 v.2.1 v.2.2
def zT : VT := (none, 0, 0)
/-- A node: the bytes it begins with, its thing, the nodes below. -/
inductive RT where
  | mk (begin : List UInt8) (v : VT) (kids : List RT)
namespace RT
def begin : RT → List UInt8
  | mk b _ _ => b
def v : RT → VT
  | mk _ v _ => v
def kids : RT → List RT
  | mk _ _ k => k
def first (t : RT) : UInt8 := t.begin.getD 0 0
mutual
/-- The thing of bytes. -/
def look : RT → List UInt8 → Option VT
  | mk b v k, s => if alikeN b s < b.length then none else
      if s.drop b.length = [] then some v else lookS k (s.drop b.length)
def lookS : List RT → List UInt8 → Option VT
  | [], _ => none
  | t :: l, s => if t.begin.getD 0 0 = s.getD 0 0 then look t s else lookS l s
end
mutual
/-- How many nodes. -/
def nodes : RT → Nat
  | mk _ _ k => 1 + nodesS k
def nodesS : List RT → Nat
  | [] => 0
  | t :: l => nodes t + nodesS l
end
mutual
/-- A tree of bytes of one length n: leaves have no nodes below; others two and more, by rising first bytes, and the thing 0. -/
def WF : Nat → RT → Prop
  | n, mk b v k => b.length ≤ n ∧ ((k = [] ∧ b.length = n) ∨ (2 ≤ k.length ∧ v = zT ∧ b.length < n ∧ WFS (n - b.length) k))
/-- Nodes below one: none begins with nothing; their first bytes rise. -/
def WFS : Nat → List RT → Prop
  | _, [] => True
  | n, t :: l => t.begin ≠ [] ∧ WF n t ∧ (∀ u ∈ l, t.first < u.first) ∧ WFS n l
end
theorem alike_full {b s : List UInt8} (h : ¬ alikeN b s < b.length) : s.take b.length = b := by
  have h1 := alikeN_le b s
  have h2 := alikeN_take b s
  rw [show alikeN b s = b.length by omega, List.take_length] at h2
  exact h2.symm
theorem alike_append (b s : List UInt8) : ¬ alikeN b (b ++ s) < b.length := by
  induction b with
  | nil => simp
  | cons x b ih => simp only [List.cons_append, alikeN, if_true, List.length_cons]; omega
theorem look_append (b s : List UInt8) (v : VT) (k : List RT) : look (mk b v k) (b ++ s) = if s = [] then some v else lookS k s := by
  rw [look, if_neg (alike_append b s), List.drop_left]
theorem look_none {b s : List UInt8} {v : VT} {k : List RT} (h : s.take b.length ≠ b) : look (mk b v k) s = none := by
  rw [look]
  split
  · rfl
  · next h2 => exact absurd (alike_full h2) h
theorem look_first {t : RT} {s : List UInt8} (hb : t.begin ≠ []) (hs : s.getD 0 0 ≠ t.first) : look t s = none := by
  cases t with
  | mk b v k =>
    apply look_none
    intro h
    apply hs
    simp only [first, begin] at *
    cases b with
    | nil => exact absurd rfl hb
    | cons x b =>
      cases s with
      | nil => simp at h
      | cons y s => simp at h; simp [h.1]
theorem lookS_none {l : List RT} {s : List UInt8} (h : ∀ u ∈ l, s.getD 0 0 ≠ u.first) : lookS l s = none := by
  induction l with
  | nil => rfl
  | cons t l ih =>
    rw [lookS, if_neg (fun e => h t (by simp) e.symm)]
    exact ih fun u hu => h u (by simp [hu])
mutual
/-- There is something in a tree. -/
theorem some_key : ∀ {t : RT} {n : Nat}, WF n t → ∃ s, s.length = n ∧ (look t s).isSome = true ∧ s.take t.begin.length = t.begin
  | mk b v k, n, h => by
    rw [WF] at h
    rcases h.2 with ⟨hk, hb⟩ | ⟨hk, hv, hb, hw⟩
    · refine ⟨b, hb, ?_, by simp [begin]⟩
      have := look_append b [] v k
      rw [List.append_nil] at this
      rw [this]; rfl
    · obtain ⟨s, h1, h2, h3⟩ := some_keyS hw (by omega)
      refine ⟨b ++ s, by simp; omega, ?_, by simp [begin]⟩
      rw [look_append, if_neg]
      · exact h2
      · intro e; subst e; simp at h1; omega
theorem some_keyS : ∀ {l : List RT} {n : Nat}, WFS n l → 0 < l.length → ∃ s, s.length = n ∧ (lookS l s).isSome = true ∧ ∃ t, l.head? = some t ∧ s.getD 0 0 = t.first
  | [], n, _, h => by simp at h
  | t :: l, n, h, _ => by
    rw [WFS] at h
    obtain ⟨s, h1, h2, h3⟩ := some_key h.2.1
    have hf : s.getD 0 0 = t.first := by
      rw [first, ← h3]
      have : 0 < t.begin.length := List.length_pos_iff.2 h.1
      simp [List.getD, List.getElem?_take_of_lt this]
    exact ⟨s, h1, by rw [lookS, if_pos (by rw [hf]; rfl)]; exact h2, t, rfl, hf⟩
end
end RT
end Go.Proofs.YtmaemgihhipllaaGreatDoor.Sad

/- radix: a tree is what it has. -/
namespace Go.Proofs.YtmaemgihhipllaaGreatDoor.Sad
open Go.Proofs.YtmaemgihhipllaaGreatDoor
set_option linter.unusedVariables false
set_option linter.unusedSimpArgs false
namespace RT
theorem WFS.mem : ∀ {l : List RT} {n : Nat}, WFS n l → ∀ u ∈ l, u.begin ≠ [] ∧ WF n u
  | [], _, _, u, hu => by simp at hu
  | t :: l, n, h, u, hu => by
    rw [WFS] at h
    rcases List.mem_cons.1 hu with rfl | hu
    · exact ⟨h.1, h.2.1⟩
    · exact h.2.2.2.mem u hu
theorem look_pre {t : RT} {s : List UInt8} (h : (look t s).isSome = true) : s.take t.begin.length = t.begin := by
  cases t with
  | mk b v k =>
    by_cases hs : s.take b.length = b
    · exact hs
    · rw [look_none hs] at h; simp at h
/-- Two things of a tree that parts, unlike where it parts. -/
theorem two_keys {b : List UInt8} {v : VT} {k : List RT} {n : Nat} (h : WF n (mk b v k)) (hk : k ≠ []) : ∃ s s', s.length = n ∧ s'.length = n ∧ (look (mk b v k) s).isSome = true ∧ (look (mk b v k) s').isSome = true ∧ s.getD b.length 0 ≠ s'.getD b.length 0 ∧ b.length < n := by
  rw [WF] at h
  rcases h.2 with ⟨h1, _⟩ | ⟨h1, _, hb, hw⟩
  · exact absurd h1 hk
  · match k, h1, hw with
    | t :: u :: l, _, hw =>
      rw [WFS] at hw
      obtain ⟨s, s1, s2, t', ht, s3⟩ := some_keyS (l := [t]) (n := n - b.length) (by rw [WFS]; exact ⟨hw.1, hw.2.1, by simp, by rw [WFS]; trivial⟩) (by simp)
      have hwu := hw.2.2.2
      have hfu := hw.2.2.1 u (by simp)
      rw [WFS] at hwu
      obtain ⟨r, r1, r2, u', hu, r3⟩ := some_keyS (l := [u]) (n := n - b.length) (by rw [WFS]; exact ⟨hwu.1, hwu.2.1, by simp, by rw [WFS]; trivial⟩) (by simp)
      cases ht; cases hu
      have hne : ∀ x : List UInt8, x.length = n - b.length → x ≠ [] := fun x hx e => by subst e; simp at hx; omega
      have hg : ∀ x : List UInt8, (b ++ x).getD b.length 0 = x.getD 0 0 := fun x => by simp [List.getD, List.getElem?_append_right]
      refine ⟨b ++ s, b ++ r, by simp; omega, by simp; omega, ?_, ?_, ?_, hb⟩
      · rw [look_append, if_neg (hne s s1), lookS, if_pos (by rw [s3]; rfl)]
        rw [lookS, if_pos (by rw [s3]; rfl)] at s2
        exact s2
      · rw [look_append, if_neg (hne r r1), lookS, if_neg (by rw [r3]; intro e; rw [first, first, e] at hfu; exact absurd hfu (by rw [first]; simp)), lookS, if_pos (by rw [r3]; rfl)]
        rw [lookS, if_pos (by rw [r3]; rfl)] at r2
        exact r2
      · rw [hg, hg, s3, r3]
        intro e; rw [e] at hfu; exact absurd hfu (by simp)
theorem begin_le {t1 t2 : RT} {n : Nat} (h1 : WF n t1) (h2 : WF n t2) (h : ∀ s, s.length = n → look t1 s = look t2 s) : t2.begin.length ≤ t1.begin.length := by
  cases t1 with
  | mk b v k =>
    by_cases hk : k = []
    · subst hk
      have hb : b.length = n := by
        rw [WF] at h1
        rcases h1.2 with h | h
        · exact h.2
        · have := h.1; simp at this
      cases t2 with
      | mk b' v' k' => rw [WF] at h2; simp only [begin]; omega
    · obtain ⟨s, s', l1, l2, e1, e2, hd, hn⟩ := two_keys h1 hk
      rw [h s l1] at e1
      rw [h s' l2] at e2
      have p1 := look_pre e1
      have p2 := look_pre e2
      show t2.begin.length ≤ b.length
      apply Decidable.byContradiction
      intro hc
      apply hd
      have hlt : b.length < t2.begin.length := by omega
      have := congrArg (fun x => x.getD b.length 0) (p1.trans p2.symm)
      simp only [List.getD, List.getElem?_take_of_lt hlt] at this
      exact this
mutual
theorem canon : ∀ {t1 t2 : RT} {n : Nat}, WF n t1 → WF n t2 → (∀ s, s.length = n → look t1 s = look t2 s) → t1 = t2
  | mk b v k, mk b' v' k', n, h1, h2, h => by
    have hb : b = b' := by
      have q1 := begin_le h1 h2 h
      have q2 := begin_le h2 h1 fun s hs => (h s hs).symm
      obtain ⟨s, l1, e1, p1⟩ := some_key h1
      rw [h s l1] at e1
      have p2 := look_pre e1
      simp only [begin] at *
      rw [← p1, ← p2, show b.length = b'.length by omega]
    subst hb
    have h1' := h1
    have h2' := h2
    rw [WF] at h1 h2
    rcases h1.2 with ⟨rfl, e1⟩ | ⟨k1, rfl, e1, w1⟩
    · rcases h2.2 with ⟨rfl, e2⟩ | ⟨k2, rfl, e2, w2⟩
      · have := h b e1
        have a1 := look_append b [] v []
        have a2 := look_append b [] v' []
        rw [List.append_nil] at a1 a2
        rw [a1, a2] at this
        simpa using this
      · omega
    · rcases h2.2 with ⟨rfl, e2⟩ | ⟨k2, rfl, e2, w2⟩
      · omega
      · have := canonS w1 w2 fun s hs => by
          have := h (b ++ s) (by simp; omega)
          rw [look_append, look_append] at this
          have hne : s ≠ [] := fun e => by subst e; simp at hs; omega
          rw [if_neg hne, if_neg hne] at this
          exact this
        rw [this]
theorem canonS : ∀ {l1 l2 : List RT} {n : Nat}, WFS n l1 → WFS n l2 → (∀ s, s.length = n → lookS l1 s = lookS l2 s) → l1 = l2
  | [], [], n, _, _, _ => rfl
  | [], u :: m, n, _, h2, h => by
    obtain ⟨s, s1, s2, _⟩ := some_keyS h2 (by simp)
    rw [← h s s1] at s2
    simp [lookS] at s2
  | t :: l, [], n, h1, _, h => by
    obtain ⟨s, s1, s2, _⟩ := some_keyS h1 (by simp)
    rw [h s s1] at s2
    simp [lookS] at s2
  | t :: l, u :: m, n, h1, h2, h => by
    have hf : t.first = u.first := by
      obtain ⟨s, s1, s2, t', ht, s3⟩ := some_keyS h1 (by simp)
      obtain ⟨r, r1, r2, u', hu, r3⟩ := some_keyS h2 (by simp)
      cases ht; cases hu
      rw [h s s1] at s2
      rw [← h r r1] at r2
      rw [WFS] at h1 h2
      apply Decidable.byContradiction
      intro hne
      have hne2 : t.first.toNat ≠ u.first.toNat := fun e => hne (UInt8.toNat_inj.1 e)
      rcases Nat.lt_or_gt_of_ne hne2 with hlt | hlt
      · rw [lookS_none] at s2
        · simp at s2
        · intro x hx e
          rw [s3] at e
          rcases List.mem_cons.1 hx with rfl | hx
          · exact hne e
          · have := h2.2.2.1 x hx
            rw [UInt8.lt_iff_toNat_lt, ← e] at this
            omega
      · rw [lookS_none] at r2
        · simp at r2
        · intro x hx e
          rw [r3] at e
          rcases List.mem_cons.1 hx with rfl | hx
          · exact hne e.symm
          · have := h1.2.2.1 x hx
            rw [UInt8.lt_iff_toNat_lt, ← e] at this
            omega
    rw [WFS] at h1 h2
    have e1 : t = u := canon h1.2.1 h2.2.1 fun s hs => by
      by_cases hc : s.getD 0 0 = t.first
      · have := h s hs
        rw [lookS, lookS, if_pos (by rw [hc]; rfl), if_pos (by rw [hc, hf]; rfl)] at this
        exact this
      · rw [look_first h1.1 hc, look_first h2.1 (by rw [← hf]; exact hc)]
    have e2 : l = m := canonS h1.2.2.2 h2.2.2.2 fun s hs => by
      by_cases hc : s.getD 0 0 = t.first
      · rw [lookS_none fun x hx e => ?_, lookS_none fun x hx e => ?_]
        · have := h2.2.2.1 x hx
          rw [UInt8.lt_iff_toNat_lt, ← e, hc, hf] at this
          omega
        · have := h1.2.2.1 x hx
          rw [UInt8.lt_iff_toNat_lt, ← e, hc] at this
          omega
      · have := h s hs
        rw [lookS, lookS, if_neg (fun e => hc e.symm), if_neg (fun e => hc (by rw [hf]; exact e.symm))] at this
        exact this
    rw [e1, e2]
end
end RT
end Go.Proofs.YtmaemgihhipllaaGreatDoor.Sad

/- radix: putting into a tree, in plain Lean. -/
namespace Go.Proofs.YtmaemgihhipllaaGreatDoor.Sad
open Go.Proofs.YtmaemgihhipllaaGreatDoor
set_option linter.unusedVariables false
set_option linter.unusedSimpArgs false
namespace RT
/-- A node among nodes, in its place. -/
def addK (l : List RT) (y : RT) : List RT :=
  match l with
  | [] => [y]
  | t :: l => if y.first ≤ t.first then y :: t :: l else t :: addK l y
mutual
def put : RT → List UInt8 → VT → RT
  | mk b w k, s, x =>
    if alikeN b s < b.length then mk (b.take (alikeN b s)) zT (addK [mk (b.drop (alikeN b s)) w k] (mk (s.drop (alikeN b s)) x []))
    else if s.drop b.length = [] then mk b x k
    else mk b w (putS k (s.drop b.length) x)
def putS : List RT → List UInt8 → VT → List RT
  | [], s, x => [mk s x []]
  | t :: l, s, x => if t.first = s.getD 0 0 then put t s x :: l else if s.getD 0 0 < t.first then mk s x [] :: t :: l else t :: putS l s x
end
theorem look_leaf (b s : List UInt8) (v : VT) (h : s.length = b.length) : look (mk b v []) s = if s = b then some v else none := by
  by_cases he : s = b
  · subst he
    rw [if_pos rfl]
    have := look_append s [] v []
    rw [List.append_nil] at this
    rw [this]; rfl
  · rw [if_neg he, look_none]
    rw [← h, List.take_length]
    exact he
theorem alike_part {b s : List UInt8} (h : alikeN b s < b.length) (hs : alikeN b s < s.length) : b.getD (alikeN b s) 0 ≠ s.getD (alikeN b s) 0 := by
  induction b generalizing s with
  | nil => simp at h
  | cons x b ih =>
    cases s with
    | nil => simp at hs
    | cons y s =>
      simp only [alikeN] at *
      split
      · next e =>
        rw [if_pos e] at h hs
        simpa [List.getD] using ih (by simpa using h) (by simpa using hs)
      · next e => simpa [List.getD] using e
theorem look_drop (p c r : List UInt8) (w : VT) (k : List RT) : look (mk (p ++ c) w k) (p ++ r) = look (mk c w k) r := by
  by_cases h : r.take c.length = c
  · obtain ⟨q, hq⟩ : ∃ q, r = c ++ q := ⟨r.drop c.length, by have := List.take_append_drop c.length r; rw [h] at this; exact this.symm⟩
    subst hq
    rw [← List.append_assoc, look_append, look_append]
  · rw [look_none h, look_none]
    intro e
    apply h
    rw [List.length_append, List.take_append, List.take_of_length_le (by omega), Nat.add_sub_cancel_left] at e
    exact List.append_cancel_left e
theorem lookS_pair {t u : RT} (h : t.first ≠ u.first) (r : List UInt8) : lookS (addK [t] u) r = if r.getD 0 0 = u.first then look u r else if r.getD 0 0 = t.first then look t r else none := by
  have e1 : ∀ x : RT, (x.begin.getD 0 0 = r.getD 0 0) = (r.getD 0 0 = x.first) := fun x => propext ⟨fun h => h.symm, fun h => h.symm⟩
  unfold addK
  split
  · simp only [lookS, e1]
  · simp only [addK, lookS, e1]
    by_cases h1 : r.getD 0 0 = t.first
    · rw [if_pos h1, if_neg (fun h2 => h (h1.symm.trans h2)), if_pos h1]
    · rw [if_neg h1]
      by_cases h2 : r.getD 0 0 = u.first
      · rw [if_pos h2, if_pos h2]
      · rw [if_neg h2, if_neg h2, if_neg h1]
theorem head_take {b : List UInt8} {m : Nat} (h : 0 < m) : (b.take m).getD 0 0 = b.getD 0 0 := by
  simp [List.getD, List.getElem?_take_of_lt h]
theorem head_drop (b : List UInt8) (m : Nat) : (b.drop m).getD 0 0 = b.getD m 0 := by simp [List.getD]
theorem alike_pos {b s : List UInt8} (hb : b ≠ []) (hs : s ≠ []) (h : b.getD 0 0 = s.getD 0 0) : 0 < alikeN b s := by
  cases b with
  | nil => exact absurd rfl hb
  | cons x b =>
    cases s with
    | nil => exact absurd rfl hs
    | cons y s =>
      have : x = y := by simpa using h
      simp [alikeN, this]
theorem first_put {t : RT} {s : List UInt8} {x : VT} (hb : t.begin ≠ []) (hs : s ≠ []) (h : t.first = s.getD 0 0) : (put t s x).first = t.first ∧ (put t s x).begin ≠ [] := by
  cases t with
  | mk b w k =>
    have hb' : b ≠ [] := hb
    have h' : b.getD 0 0 = s.getD 0 0 := h
    show (put (mk b w k) s x).begin.getD 0 0 = b.getD 0 0 ∧ _
    rw [put]
    split
    · have hp := alike_pos hb' hs h'
      refine ⟨head_take hp, ?_⟩
      show b.take (alikeN b s) ≠ []
      intro e
      have := congrArg List.length e
      have h3 : 0 < b.length := List.length_pos_iff.2 hb'
      rw [List.length_take, List.length_nil] at this
      omega
    · split
      · exact ⟨rfl, hb'⟩
      · exact ⟨rfl, hb'⟩
end RT
end Go.Proofs.YtmaemgihhipllaaGreatDoor.Sad

/- radix: what a tree has behind a put. -/
namespace Go.Proofs.YtmaemgihhipllaaGreatDoor.Sad
open Go.Proofs.YtmaemgihhipllaaGreatDoor
set_option linter.unusedVariables false
set_option linter.unusedSimpArgs false
namespace RT
theorem cut_head {l : List UInt8} {m : Nat} (h : m < l.length) : l.drop m ≠ [] := by
  intro e
  have := congrArg List.length e
  rw [List.length_drop, List.length_nil] at this
  omega
mutual
theorem look_put : ∀ {t : RT} {n : Nat} (x : VT) {s s' : List UInt8}, WF n t → s.length = n → s'.length = n → look (put t s x) s' = if s' = s then some x else look t s'
  | mk b w k, n, x, s, s', h, hs, hs' => by
    have hn : b.length ≤ n := by rw [WF] at h; exact h.1
    rw [put]
    split
    · next hm =>
      have hms : alikeN b s < s.length := by omega
      have hpart := alike_part hm hms
      have htk := alikeN_take b s
      generalize hmm : alikeN b s = m at *
      by_cases hp : s'.take m = b.take m
      · have hs2 : s' = b.take m ++ s'.drop m := by rw [← hp, List.take_append_drop]
        have hs1 : s = b.take m ++ s.drop m := by rw [htk, List.take_append_drop]
        have hb1 : b = b.take m ++ b.drop m := (List.take_append_drop m b).symm
        have hr : s'.drop m ≠ [] := cut_head (by omega)
        have hfirst : (mk (b.drop m) w k).first ≠ (mk (s.drop m) x []).first := by
          show (b.drop m).getD 0 0 ≠ (s.drop m).getD 0 0
          rw [head_drop, head_drop]; exact hpart
        have hR : (if s' = s then some x else look (mk b w k) s') = if s'.drop m = s.drop m then some x else look (mk (b.drop m) w k) (s'.drop m) := by
          have e1 : look (mk b w k) s' = look (mk (b.drop m) w k) (s'.drop m) := by
            have := look_drop (b.take m) (b.drop m) (s'.drop m) w k
            rw [List.take_append_drop, ← hs2] at this
            exact this
          rw [e1]
          by_cases h1 : s'.drop m = s.drop m
          · rw [if_pos h1, if_pos (by rw [hs2, hs1, h1])]
          · rw [if_neg h1, if_neg (fun e => h1 (by rw [e]))]
        rw [hR]
        conv => lhs; rw [hs2]
        rw [look_append, if_neg hr, lookS_pair hfirst]
        have hl : (s'.drop m).length = (s.drop m).length := by simp; omega
        by_cases h1 : (s'.drop m).getD 0 0 = (mk (s.drop m) x []).first
        · rw [if_pos h1, look_leaf _ _ _ hl]
          by_cases h2 : s'.drop m = s.drop m
          · rw [if_pos h2, if_pos h2]
          · rw [if_neg h2, if_neg h2, look_first (t := mk (b.drop m) w k) (cut_head hm) (by rw [h1]; exact fun e => hfirst e.symm)]
        · have h3 : ¬ s'.drop m = s.drop m := fun e => h1 (by rw [e]; rfl)
          rw [if_neg h1, if_neg h3]
          by_cases h2 : (s'.drop m).getD 0 0 = (mk (b.drop m) w k).first
          · rw [if_pos h2]
          · rw [if_neg h2, look_first (t := mk (b.drop m) w k) (cut_head hm) h2]
      · rw [look_none (by rw [show (b.take m).length = m by simp; omega]; exact hp), if_neg (fun e => hp (by rw [e, htk])), look_none]
        intro e
        apply hp
        rw [← e, List.take_take, Nat.min_eq_left (by omega)]
    · next hm =>
      have hf := alike_full hm
      split
      · next hd =>
        have hl : s.length ≤ b.length := by simpa using hd
        have hsb : s = b := by rw [← hf, List.take_of_length_le hl]
        rw [WF] at h
        have hk : k = [] := by
          rcases h.2 with h | h
          · exact h.1
          · omega
        subst hk
        rw [look_leaf b s' x (by omega), look_leaf b s' w (by omega), hsb]
        split <;> rfl
      · next hd =>
        rw [WF] at h
        have hlt : b.length < s.length := by
          apply Decidable.byContradiction
          intro h2
          exact hd (List.drop_eq_nil_of_le (by omega))
        have hw : WFS (n - b.length) k := by
          rcases h.2 with h | h
          · omega
          · exact h.2.2.2
        have hs1 : s = b ++ s.drop b.length := by conv => lhs; rw [← List.take_append_drop b.length s, hf]
        by_cases hp : s'.take b.length = b
        · have hs2 : s' = b ++ s'.drop b.length := by conv => lhs; rw [← List.take_append_drop b.length s', hp]
          have hr : s'.drop b.length ≠ [] := cut_head (by omega)
          have ih := look_putS x (s' := s'.drop b.length) hw (s := s.drop b.length) (by simp; omega) (by simp; omega) (by omega)
          conv => lhs; rw [hs2]
          rw [look_append, if_neg hr, ih]
          by_cases h1 : s'.drop b.length = s.drop b.length
          · rw [if_pos h1, if_pos (by rw [hs2, h1, ← hs1])]
          · rw [if_neg h1, if_neg (fun e => h1 (by rw [e]))]
            conv => rhs; rw [hs2]
            rw [look_append, if_neg hr]
        · rw [look_none hp, look_none hp, if_neg (fun e => hp (by rw [e, hf]))]
theorem look_putS : ∀ {l : List RT} {n : Nat} (x : VT) {s s' : List UInt8}, WFS n l → s.length = n → s'.length = n → 0 < n → lookS (putS l s x) s' = if s' = s then some x else lookS l s'
  | [], n, x, s, s', _, hs, hs', h0 => by
    rw [putS]
    simp only [lookS]
    show (if s.getD 0 0 = s'.getD 0 0 then look (mk s x []) s' else none) = _
    rw [look_leaf _ _ _ (by omega)]
    by_cases h : s' = s
    · subst h; simp
    · rw [if_neg h]; split <;> rfl
  | t :: l, n, x, s, s', h, hs, hs', h0 => by
    rw [WFS] at h
    have hsn : s ≠ [] := fun e => by subst e; simp at hs; omega
    rw [putS]
    split
    · next hf =>
      have hfp := first_put (x := x) h.1 hsn hf
      have e1 : (put t s x).begin.getD 0 0 = t.first := hfp.1
      have e2 : t.begin.getD 0 0 = t.first := rfl
      simp only [lookS]
      rw [e1, e2]
      by_cases h1 : t.first = s'.getD 0 0
      · rw [if_pos h1, if_pos h1]
        exact look_put x h.2.1 hs hs'
      · rw [if_neg h1, if_neg h1, if_neg (fun e => h1 (by rw [e]; exact hf))]
    · next hf =>
      split
      · next hlt =>
        rw [lookS]
        show (if s.getD 0 0 = s'.getD 0 0 then look (mk s x []) s' else lookS (t :: l) s') = _
        by_cases h1 : s.getD 0 0 = s'.getD 0 0
        · rw [if_pos h1, look_leaf _ _ _ (by omega)]
          by_cases h2 : s' = s
          · rw [if_pos h2, if_pos h2]
          · rw [if_neg h2, if_neg h2, lookS_none]
            intro u hu e
            rw [← h1] at e
            rcases List.mem_cons.1 hu with rfl | hu
            · exact hf e.symm
            · have := h.2.2.1 u hu
              rw [UInt8.lt_iff_toNat_lt] at this hlt
              rw [e] at hlt
              omega
        · rw [if_neg h1, if_neg (fun e => h1 (by rw [e]))]
      · next hlt =>
        have ih := look_putS (l := l) x (s := s) (s' := s') h.2.2.2 hs hs' h0
        simp only [lookS]
        rw [ih]
        have e2 : t.begin.getD 0 0 = t.first := rfl
        rw [e2]
        by_cases h1 : t.first = s'.getD 0 0
        · rw [if_pos h1, if_pos h1, if_neg (fun e => hf (by rw [h1, e]))]
        · rw [if_neg h1, if_neg h1]
end
end RT
end Go.Proofs.YtmaemgihhipllaaGreatDoor.Sad

/- radix: a tree behind a put is a tree. -/
namespace Go.Proofs.YtmaemgihhipllaaGreatDoor.Sad
open Go.Proofs.YtmaemgihhipllaaGreatDoor
set_option linter.unusedVariables false
set_option linter.unusedSimpArgs false
namespace RT
theorem lt_of_not_le {a b : UInt8} (h : ¬ a ≤ b) : b < a := by
  rw [UInt8.lt_iff_toNat_lt]
  rw [UInt8.le_iff_toNat_le] at h
  omega
theorem lt_of_le_ne {a b : UInt8} (h : a ≤ b) (hn : a ≠ b) : a < b := by
  rw [UInt8.lt_iff_toNat_lt]
  rw [UInt8.le_iff_toNat_le] at h
  have : a.toNat ≠ b.toNat := fun e => hn (UInt8.toNat_inj.1 e)
  omega
theorem WFS_two {n : Nat} {t u : RT} (ht : t.begin ≠ []) (hu : u.begin ≠ []) (wt : WF n t) (wu : WF n u) (hn : t.first ≠ u.first) : WFS n (addK [t] u) ∧ (addK [t] u).length = 2 := by
  have one : ∀ {a b : RT}, a.begin ≠ [] → b.begin ≠ [] → WF n a → WF n b → a.first < b.first → WFS n [a, b] := fun ha hb wa wb h => by
    simp only [WFS]
    exact ⟨ha, wa, by simpa using h, hb, wb, by simp, trivial⟩
  unfold addK
  split
  · next h => exact ⟨one hu ht wu wt (lt_of_le_ne h fun e => hn e.symm), rfl⟩
  · next h => exact ⟨one ht hu wt wu (lt_of_not_le h), rfl⟩
theorem putS_len (x : VT) (s : List UInt8) : ∀ l : List RT, l.length ≤ (putS l s x).length
  | [] => by simp
  | t :: l => by
    rw [putS]
    split
    · simp
    · split
      · simp
      · have := putS_len x s l
        simp only [List.length_cons]; omega
theorem putS_first {n : Nat} (x : VT) {s : List UInt8} (hs : s ≠ []) : ∀ {l : List RT}, WFS n l → ∀ u ∈ putS l s x, u.first = s.getD 0 0 ∨ ∃ t ∈ l, u.first = t.first
  | [], _, u, hu => by
    rw [putS] at hu
    have : u = mk s x [] := by simpa using hu
    subst this
    exact .inl rfl
  | t :: l, h, u, hu => by
    rw [WFS] at h
    rw [putS] at hu
    split at hu
    · next hf =>
      rcases List.mem_cons.1 hu with rfl | hu
      · exact .inr ⟨t, by simp, (first_put h.1 hs hf).1⟩
      · exact .inr ⟨u, by simp [hu], rfl⟩
    · split at hu
      · rcases List.mem_cons.1 hu with rfl | hu
        · exact .inl rfl
        · exact .inr ⟨u, hu, rfl⟩
      · rcases List.mem_cons.1 hu with rfl | hu
        · exact .inr ⟨u, by simp, rfl⟩
        · rcases putS_first x hs h.2.2.2 u hu with h1 | ⟨t', h1, h2⟩
          · exact .inl h1
          · exact .inr ⟨t', by simp [h1], h2⟩
mutual
theorem WF_put : ∀ {t : RT} {n : Nat} (x : VT) {s : List UInt8}, WF n t → s.length = n → WF n (put t s x)
  | mk b w k, n, x, s, h, hs => by
    have hn : b.length ≤ n := by rw [WF] at h; exact h.1
    rw [put]
    split
    · next hm =>
      have hms : alikeN b s < s.length := by omega
      have hpart := alike_part hm hms
      generalize hmm : alikeN b s = m at *
      have hfirst : (mk (b.drop m) w k).first ≠ (mk (s.drop m) x []).first := by
        show (b.drop m).getD 0 0 ≠ (s.drop m).getD 0 0
        rw [head_drop, head_drop]; exact hpart
      have hl : (b.take m).length = m := by simp; omega
      have h2 := WFS_two (n := n - m) (t := mk (b.drop m) w k) (u := mk (s.drop m) x []) (cut_head hm) (cut_head (by omega)) (by
        rw [WF] at h ⊢
        refine ⟨by simp; omega, h.2.imp (fun h => ⟨h.1, by simp; omega⟩) fun h => ⟨h.1, h.2.1, by simp; omega, ?_⟩⟩
        rw [show n - m - (b.drop m).length = n - b.length by simp; omega]
        exact h.2.2.2) (by
        rw [WF]
        exact ⟨by simp; omega, .inl ⟨rfl, by simp; omega⟩⟩) hfirst
      rw [WF, hl]
      exact ⟨by omega, .inr ⟨by omega, rfl, by omega, h2.1⟩⟩
    · next hm =>
      have hf := alike_full hm
      rw [WF] at h
      split
      · next hd =>
        have hl : s.length ≤ b.length := by simpa using hd
        rw [WF]
        refine ⟨hn, .inl ?_⟩
        rcases h.2 with h | h
        · exact h
        · omega
      · next hd =>
        have hlt : b.length < s.length := by
          apply Decidable.byContradiction
          intro h2
          exact hd (List.drop_eq_nil_of_le (by omega))
        rcases h.2 with h | h
        · omega
        · rw [WF]
          refine ⟨hn, .inr ⟨Nat.le_trans h.1 (putS_len _ _ _), h.2.1, h.2.2.1, WF_putS x h.2.2.2 (by simp; omega) (by omega)⟩⟩
theorem WF_putS : ∀ {l : List RT} {n : Nat} (x : VT) {s : List UInt8}, WFS n l → s.length = n → 0 < n → WFS n (putS l s x)
  | [], n, x, s, _, hs, h0 => by
    rw [putS]
    simp only [WFS, WF]
    exact ⟨fun e => by have : s = [] := e; subst this; simp at hs; omega, ⟨by omega, by simp; exact hs⟩, by simp, trivial⟩
  | t :: l, n, x, s, h, hs, h0 => by
    have hsn : s ≠ [] := fun e => by subst e; simp at hs; omega
    have h' := h
    rw [WFS] at h
    rw [putS]
    split
    · next hf =>
      have hfp := first_put (x := x) h.1 hsn hf
      rw [WFS]
      exact ⟨hfp.2, WF_put x h.2.1 hs, fun u hu => by rw [hfp.1]; exact h.2.2.1 u hu, h.2.2.2⟩
    · next hf =>
      split
      · next hlt =>
        rw [WFS]
        refine ⟨hsn, by rw [WF]; exact ⟨by omega, .inl ⟨rfl, hs⟩⟩, fun u hu => ?_, h'⟩
        show s.getD 0 0 < u.first
        rcases List.mem_cons.1 hu with rfl | hu
        · exact hlt
        · have := h.2.2.1 u hu
          rw [UInt8.lt_iff_toNat_lt] at *
          omega
      · next hlt =>
        rw [WFS]
        refine ⟨h.1, h.2.1, fun u hu => ?_, WF_putS x h.2.2.2 hs h0⟩
        rcases putS_first x hsn h.2.2.2 u hu with h1 | ⟨t', h1, h2⟩
        · rw [h1]
          exact lt_of_le_ne (by
            rw [UInt8.le_iff_toNat_le]
            rw [UInt8.lt_iff_toNat_lt] at hlt
            omega) hf
        · rw [h2]; exact h.2.2.1 t' h1
end
end RT
end Go.Proofs.YtmaemgihhipllaaGreatDoor.Sad

/- radix: deleting, in plain Lean. -/
namespace Go.Proofs.YtmaemgihhipllaaGreatDoor.Sad
open Go.Proofs.YtmaemgihhipllaaGreatDoor
set_option linter.unusedVariables false
set_option linter.unusedSimpArgs false
namespace RT
/-- Where but one is left below, it joins the node above. -/
def join (b : List UInt8) (w : VT) : List RT → RT
  | [z] => mk (b ++ z.begin) z.v z.kids
  | l => mk b w l
mutual
def del : RT → List UInt8 → RT
  | mk b w k, s => join b w (delS k (s.drop b.length))
def delS : List RT → List UInt8 → List RT
  | [], _ => []
  | t :: l, s => if t.first = s.getD 0 0 then (if t.kids.isEmpty then l else del t s :: l) else t :: delS l s
end
theorem look_join (b : List UInt8) (w : VT) (l : List RT) (s : List UInt8) (hs : b.length < s.length) (hl : ∀ u ∈ l, u.begin ≠ []) : look (join b w l) s = look (mk b w l) s := by
  unfold join
  split
  · next z =>
    have hz := hl z (by simp)
    by_cases hp : s.take b.length = b
    · have hs2 : s = b ++ s.drop b.length := by conv => lhs; rw [← List.take_append_drop b.length s, hp]
      rw [hs2, look_drop, look_append, if_neg (cut_head hs)]
      have e : mk z.begin z.v z.kids = z := by cases z; rfl
      rw [e, lookS]
      by_cases h1 : z.begin.getD 0 0 = (s.drop b.length).getD 0 0
      · rw [if_pos h1]
      · rw [if_neg h1, look_first hz (fun e => h1 e.symm), lookS]
    · rw [look_none hp, look_none]
      intro e
      apply hp
      have := congrArg (List.take b.length) e
      rw [List.take_take, List.length_append, Nat.min_eq_left (by omega), List.take_left' rfl] at this
      exact this
  · rfl
theorem first_join {b : List UInt8} {w : VT} {l : List RT} (hb : b ≠ []) : (join b w l).first = b.getD 0 0 ∧ (join b w l).begin ≠ [] := by
  unfold join
  split
  · next z =>
    cases b with
    | nil => exact absurd rfl hb
    | cons x b => exact ⟨rfl, by simp [begin]⟩
  · exact ⟨rfl, hb⟩
theorem first_del {t : RT} {s : List UInt8} (hb : t.begin ≠ []) : (del t s).first = t.first ∧ (del t s).begin ≠ [] := by
  cases t with
  | mk b w k => rw [del]; exact first_join hb
theorem delS_mem {s : List UInt8} : ∀ {l : List RT} {n : Nat}, WFS n l → ∀ u ∈ delS l s, u.begin ≠ [] ∧ ∃ t ∈ l, u.first = t.first
  | [], _, _, u, hu => by rw [delS] at hu; simp at hu
  | t :: l, n, h, u, hu => by
    have hm := h.mem
    rw [WFS] at h
    rw [delS] at hu
    split at hu
    · split at hu
      · exact ⟨(hm u (by simp [hu])).1, u, by simp [hu], rfl⟩
      · rcases List.mem_cons.1 hu with rfl | hu
        · exact ⟨(first_del h.1).2, t, by simp, (first_del h.1).1⟩
        · exact ⟨(hm u (by simp [hu])).1, u, by simp [hu], rfl⟩
    · rcases List.mem_cons.1 hu with rfl | hu
      · exact ⟨h.1, u, by simp, rfl⟩
      · obtain ⟨h1, t', h2, h3⟩ := delS_mem h.2.2.2 u hu
        exact ⟨h1, t', by simp [h2], h3⟩
mutual
theorem look_del : ∀ {t : RT} {n : Nat} {s s' : List UInt8}, WF n t → t.kids ≠ [] → s.length = n → s'.length = n → (look t s).isSome = true → look (del t s) s' = if s' = s then none else look t s'
  | mk b w k, n, s, s', h, hk, hs, hs', hl => by
    rw [WF] at h
    have hw : b.length < n ∧ WFS (n - b.length) k := by
      rcases h.2 with h | h
      · exact absurd h.1 hk
      · exact ⟨h.2.2.1, h.2.2.2⟩
    have hf : s.take b.length = b := look_pre hl
    have hs1 : s = b ++ s.drop b.length := by conv => lhs; rw [← List.take_append_drop b.length s, hf]
    have hr0 : s.drop b.length ≠ [] := cut_head (by omega)
    rw [hs1, look_append, if_neg hr0] at hl
    rw [del, look_join _ _ _ _ (by omega) fun u hu => (delS_mem hw.2 u hu).1]
    by_cases hp : s'.take b.length = b
    · have hs2 : s' = b ++ s'.drop b.length := by conv => lhs; rw [← List.take_append_drop b.length s', hp]
      have hr : s'.drop b.length ≠ [] := cut_head (by omega)
      have ih := look_delS (s' := s'.drop b.length) hw.2 (s := s.drop b.length) (by simp; omega) (by simp; omega) hl
      conv => lhs; rw [hs2]
      rw [look_append, if_neg hr, ih]
      by_cases h1 : s'.drop b.length = s.drop b.length
      · rw [if_pos h1, if_pos (by rw [hs2, h1, ← hs1])]
      · rw [if_neg h1, if_neg (fun e => h1 (by rw [e]))]
        conv => rhs; rw [hs2]
        rw [look_append, if_neg hr]
    · rw [look_none hp, look_none hp, if_neg (fun e => hp (by rw [e, hf]))]
theorem look_delS : ∀ {l : List RT} {n : Nat} {s s' : List UInt8}, WFS n l → s.length = n → s'.length = n → (lookS l s).isSome = true → lookS (delS l s) s' = if s' = s then none else lookS l s'
  | [], n, s, s', h, _, _, hl => by simp [lookS] at hl
  | t :: l, n, s, s', h, hs, hs', hl => by
    rw [WFS] at h
    have e2 : t.begin.getD 0 0 = t.first := rfl
    rw [delS]
    split
    · next hf =>
      rw [lookS, e2, if_pos hf] at hl
      split
      · next hk =>
        -- a leaf goes
        have hlook : ∀ r : List UInt8, r.length = n → r.getD 0 0 = t.first → lookS l r = none := fun r _ e => lookS_none fun u hu e' => by
          have := h.2.2.1 u hu
          rw [← e', e, UInt8.lt_iff_toNat_lt] at this
          omega
        simp only [lookS]
        rw [e2]
        by_cases h1 : t.first = s'.getD 0 0
        · rw [if_pos h1, hlook s' hs' h1.symm]
          cases t with
          | mk b w k =>
            have hk' : k = [] := by simpa [kids] using hk
            subst hk'
            have hb : b.length = n := by
              have := h.2.1
              rw [WF] at this
              rcases this.2 with h | h
              · exact h.2
              · have := h.1; simp at this
            rw [look_leaf b s w (by omega)] at hl
            have hsb : s = b := by
              apply Decidable.byContradiction
              intro hn
              rw [if_neg hn] at hl; simp at hl
            rw [look_leaf b s' w (by omega), hsb]
            split <;> rfl
        · rw [if_neg h1, if_neg (fun e => h1 (by rw [e]; exact hf))]
      · next hk =>
        have hk' : t.kids ≠ [] := fun e => hk (by rw [e]; rfl)
        simp only [lookS]
        rw [show (del t s).begin.getD 0 0 = t.first from (first_del h.1).1, e2]
        by_cases h1 : t.first = s'.getD 0 0
        · rw [if_pos h1, if_pos h1]
          exact look_del h.2.1 hk' hs hs' hl
        · rw [if_neg h1, if_neg h1, if_neg (fun e => h1 (by rw [e]; exact hf))]
    · next hf =>
      rw [lookS, e2, if_neg hf] at hl
      have ih := look_delS (l := l) (s := s) (s' := s') h.2.2.2 hs hs' hl
      simp only [lookS]
      rw [ih, e2]
      by_cases h1 : t.first = s'.getD 0 0
      · rw [if_pos h1, if_pos h1, if_neg (fun e => hf (by rw [h1, e]))]
      · rw [if_neg h1, if_neg h1]
end
end RT
end Go.Proofs.YtmaemgihhipllaaGreatDoor.Sad

/- radix: a tree behind a deletion is a tree. -/
namespace Go.Proofs.YtmaemgihhipllaaGreatDoor.Sad
open Go.Proofs.YtmaemgihhipllaaGreatDoor
set_option linter.unusedVariables false
set_option linter.unusedSimpArgs false
namespace RT
theorem delS_len (s : List UInt8) : ∀ l : List RT, l.length ≤ (delS l s).length + 1
  | [] => by simp
  | t :: l => by
    rw [delS]
    split
    · split
      · simp
      · simp
    · have := delS_len s l
      simp only [List.length_cons]; omega
theorem WF_join {b : List UInt8} {w : VT} {l : List RT} {n : Nat} (hb : b.length < n) (hw : w = zT) (h : WFS (n - b.length) l) (hl : 0 < l.length) : WF n (join b w l) := by
  unfold join
  split
  · next z =>
    rw [WFS] at h
    cases z with
    | mk c v k =>
      have hz := h.2.1
      rw [WF] at hz
      show WF n (mk (b ++ c) v k)
      rw [WF]
      refine ⟨by simp; omega, hz.2.imp (fun h => ⟨h.1, by simp; omega⟩) fun h => ⟨h.1, h.2.1, by simp; omega, ?_⟩⟩
      rw [show n - (b ++ c).length = n - b.length - c.length by simp; omega]
      exact h.2.2.2
  · next hne =>
    rw [WF]
    refine ⟨by omega, .inr ⟨?_, hw, hb, h⟩⟩
    match l, hne, hl with
    | [z], hne, _ => exact absurd rfl (hne z)
    | _ :: _ :: _, _, _ => simp
mutual
theorem WF_del : ∀ {t : RT} {n : Nat} {s : List UInt8}, WF n t → t.kids ≠ [] → s.length = n → (look t s).isSome = true → WF n (del t s)
  | mk b w k, n, s, h, hk, hs, hl => by
    rw [WF] at h
    have hw : 2 ≤ k.length ∧ w = zT ∧ b.length < n ∧ WFS (n - b.length) k := by
      rcases h.2 with h | h
      · exact absurd h.1 hk
      · exact h
    have hf : s.take b.length = b := look_pre hl
    have hs1 : s = b ++ s.drop b.length := by conv => lhs; rw [← List.take_append_drop b.length s, hf]
    have hr0 : s.drop b.length ≠ [] := cut_head (by omega)
    rw [hs1, look_append, if_neg hr0] at hl
    rw [del]
    have := delS_len (s.drop b.length) k
    exact WF_join hw.2.2.1 hw.2.1 (WF_delS hw.2.2.2 (by simp; omega) hl) (by omega)
theorem WF_delS : ∀ {l : List RT} {n : Nat} {s : List UInt8}, WFS n l → s.length = n → (lookS l s).isSome = true → WFS n (delS l s)
  | [], n, s, h, _, hl => by simp [lookS] at hl
  | t :: l, n, s, h, hs, hl => by
    rw [WFS] at h
    have e2 : t.begin.getD 0 0 = t.first := rfl
    rw [delS]
    split
    · next hf =>
      rw [lookS, e2, if_pos hf] at hl
      split
      · exact h.2.2.2
      · next hk =>
        have hk' : t.kids ≠ [] := fun e => hk (by rw [e]; rfl)
        have hfd := first_del (s := s) h.1
        rw [WFS]
        exact ⟨hfd.2, WF_del h.2.1 hk' hs hl, fun u hu => by rw [hfd.1]; exact h.2.2.1 u hu, h.2.2.2⟩
    · next hf =>
      rw [lookS, e2, if_neg hf] at hl
      rw [WFS]
      refine ⟨h.1, h.2.1, fun u hu => ?_, WF_delS h.2.2.2 hs hl⟩
      obtain ⟨_, t', h1, h2⟩ := delS_mem h.2.2.2 u hu
      rw [h2]; exact h.2.2.1 t' h1
end
/-- Putting what was not there and deleting it again. -/
theorem del_put {t : RT} {n : Nat} {s : List UInt8} (x : VT) (h : WF n t) (hs : s.length = n) (hn : look t s = none) (hk : (put t s x).kids ≠ []) : del (put t s x) s = t := by
  have hp := WF_put x h hs
  have hl : (look (put t s x) s).isSome = true := by rw [look_put x h hs hs, if_pos rfl]; rfl
  refine canon (WF_del hp hk hs hl) h fun s' hs' => ?_
  rw [look_del hp hk hs hs' hl, look_put x h hs hs']
  by_cases e : s' = s
  · rw [if_pos e, e, hn]
  · rw [if_neg e, if_neg e]
end RT
end Go.Proofs.YtmaemgihhipllaaGreatDoor.Sad

/- radix: the things of a tree in a row, and how many nodes it has. -/
namespace Go.Proofs.YtmaemgihhipllaaGreatDoor.Sad
open Go.Proofs.YtmaemgihhipllaaGreatDoor
set_option linter.unusedVariables false
set_option linter.unusedSimpArgs false
namespace RT
mutual
/-- All things of a tree, from left to right. -/
def items : RT → List (List UInt8 × VT)
  | mk b v k => if k.isEmpty then [(b, v)] else (itemsS k).map fun p => (b ++ p.1, p.2)
def itemsS : List RT → List (List UInt8 × VT)
  | [] => []
  | t :: l => items t ++ itemsS l
end
mutual
theorem nodes_items : ∀ {t : RT} {n : Nat}, WF n t → nodes t + 1 ≤ 2 * (items t).length ∧ (items t).length ≤ nodes t
  | mk b v k, n, h => by
    rw [WF] at h
    rw [nodes, items]
    rcases h.2 with h | h
    · obtain ⟨rfl, _⟩ := h
      simp [nodesS]
    · have := nodes_itemsS h.2.2.2
      have hk : k.isEmpty = false := by cases k with
        | nil => have := h.1; simp at this
        | cons _ _ => rfl
      rw [hk]
      simp only [Bool.false_eq_true, if_false, List.length_map]
      omega
theorem nodes_itemsS : ∀ {l : List RT} {n : Nat}, WFS n l → nodesS l + l.length ≤ 2 * (itemsS l).length ∧ (itemsS l).length ≤ nodesS l
  | [], n, h => by simp [nodesS, itemsS]
  | t :: l, n, h => by
    rw [WFS] at h
    have h1 := nodes_items h.2.1
    have h2 := nodes_itemsS h.2.2.2
    simp only [nodesS, itemsS, List.length_append, List.length_cons]
    omega
end
mutual
theorem mem_items : ∀ {t : RT} {n : Nat} (s : List UInt8) (x : VT), WF n t → ((s, x) ∈ items t ↔ s.length = n ∧ look t s = some x)
  | mk b v k, n, s, x, h => by
    rw [WF] at h
    rw [items]
    rcases h.2 with h | h
    · obtain ⟨rfl, hb⟩ := h
      simp only [List.isEmpty_nil, if_true, List.mem_singleton, Prod.mk.injEq]
      constructor
      · rintro ⟨rfl, rfl⟩
        exact ⟨hb, by rw [look_leaf _ _ _ rfl, if_pos rfl]⟩
      · rintro ⟨hs, hl⟩
        rw [look_leaf _ _ _ (by omega)] at hl
        split at hl
        · next e => exact ⟨e, by simpa using hl.symm⟩
        · cases hl
    · have hk : k.isEmpty = false := by cases k with
        | nil => have := h.1; simp at this
        | cons _ _ => rfl
      rw [hk]
      simp only [Bool.false_eq_true, if_false, List.mem_map, Prod.mk.injEq]
      constructor
      · rintro ⟨⟨r, y⟩, hm, rfl, rfl⟩
        have := (mem_itemsS r y h.2.2.2).1 hm
        refine ⟨by simp; omega, ?_⟩
        rw [look_append, if_neg (fun e => by have := this.1; simp only at e; rw [e] at this; simp at this; omega)]
        exact this.2
      · rintro ⟨hs, hl⟩
        have hf : s.take b.length = b := look_pre (t := mk b v k) (by rw [hl]; rfl)
        have hs1 : s = b ++ s.drop b.length := by conv => lhs; rw [← List.take_append_drop b.length s, hf]
        have hr0 : s.drop b.length ≠ [] := cut_head (by omega)
        rw [hs1, look_append, if_neg hr0] at hl
        exact ⟨(s.drop b.length, x), (mem_itemsS _ _ h.2.2.2).2 ⟨by simp; omega, hl⟩, hs1.symm, rfl⟩
theorem mem_itemsS : ∀ {l : List RT} {n : Nat} (s : List UInt8) (x : VT), WFS n l → ((s, x) ∈ itemsS l ↔ s.length = n ∧ lookS l s = some x)
  | [], n, s, x, h => by simp [itemsS, lookS]
  | t :: l, n, s, x, h => by
    rw [WFS] at h
    have e2 : t.begin.getD 0 0 = t.first := rfl
    rw [itemsS, List.mem_append, mem_items s x h.2.1, mem_itemsS s x h.2.2.2, lookS, e2]
    by_cases h1 : t.first = s.getD 0 0
    · rw [if_pos h1, lookS_none]
      · simp
      · intro u hu e
        have := h.2.2.1 u hu
        rw [UInt8.lt_iff_toNat_lt, ← e, h1] at this
        omega
    · rw [if_neg h1, look_first h.1 (fun e => h1 e.symm)]
      simp
end
end RT
end Go.Proofs.YtmaemgihhipllaaGreatDoor.Sad

/- radix: the things of a tree rise. -/
namespace Go.Proofs.YtmaemgihhipllaaGreatDoor.Sad
open Go.Proofs.YtmaemgihhipllaaGreatDoor
set_option linter.unusedVariables false
set_option linter.unusedSimpArgs false
namespace RT
theorem append_lt (b : List UInt8) {r r' : List UInt8} (h : r < r') : b ++ r < b ++ r' := by
  induction b with
  | nil => exact h
  | cons x b ih =>
    rw [List.cons_append, List.cons_append, List.cons_lt_cons_iff]
    exact .inr ⟨rfl, ih⟩
theorem head_lt {s s' : List UInt8} (hs : s ≠ []) (hs' : s' ≠ []) (h : s.getD 0 0 < s'.getD 0 0) : s < s' := by
  cases s with
  | nil => exact absurd rfl hs
  | cons x s =>
    cases s' with
    | nil => exact absurd rfl hs'
    | cons y s' =>
      rw [List.cons_lt_cons_iff]
      exact .inl h
theorem item_first {t : RT} {n : Nat} {p : List UInt8 × VT} (h : WF n t) (hb : t.begin ≠ []) (hp : p ∈ items t) : p.1.getD 0 0 = t.first ∧ p.1 ≠ [] := by
  have := (mem_items p.1 p.2 h).1 hp
  have hl : (look t p.1).isSome = true := by rw [this.2]; rfl
  have hf : p.1.getD 0 0 = t.first := by
    apply Decidable.byContradiction
    intro hn
    rw [look_first hb hn] at hl; simp at hl
  refine ⟨hf, fun e => ?_⟩
  have h2 := look_pre hl
  rw [e] at h2
  simp at h2
  exact hb h2
mutual
theorem items_rise : ∀ {t : RT} {n : Nat}, WF n t → (items t).Pairwise fun p q => p.1 < q.1
  | mk b v k, n, h => by
    rw [WF] at h
    rw [items]
    split
    · simp
    · rcases h.2 with h | h
      · obtain ⟨rfl, _⟩ := h
        simp [itemsS]
      · rw [List.pairwise_map]
        exact (items_riseS h.2.2.2).imp fun h => append_lt b h
theorem items_riseS : ∀ {l : List RT} {n : Nat}, WFS n l → (itemsS l).Pairwise fun p q => p.1 < q.1
  | [], n, h => by simp [itemsS]
  | t :: l, n, h => by
    have hm := h.mem
    rw [WFS] at h
    rw [itemsS, List.pairwise_append]
    refine ⟨items_rise h.2.1, items_riseS h.2.2.2, fun p hp q hq => ?_⟩
    have h1 := item_first h.2.1 h.1 hp
    have h2 : ∃ u ∈ l, q ∈ items u := by
      clear hm h h1 hp
      induction l with
      | nil => simp [itemsS] at hq
      | cons u l ih =>
        rw [itemsS, List.mem_append] at hq
        rcases hq with hq | hq
        · exact ⟨u, by simp, hq⟩
        · obtain ⟨u', h1, h2⟩ := ih hq
          exact ⟨u', by simp [h1], h2⟩
    obtain ⟨u, hu, hqu⟩ := h2
    have hwu := hm u (by simp [hu])
    have h3 := item_first hwu.2 hwu.1 hqu
    exact head_lt h1.2 h3.2 (by rw [h1.1, h3.1]; exact h.2.2.1 u hu)
end
end RT
end Go.Proofs.YtmaemgihhipllaaGreatDoor.Sad

/- radix: trees in memory; New, Len, less. -/
namespace Go.Proofs.YtmaemgihhipllaaGreatDoor.Sad
open Go.Proofs.YtmaemgihhipllaaGreatDoor
set_option linter.unusedVariables false
set_option linter.unusedSimpArgs false
open Go.RowKit
def ptrV (x : Nat) : Value := .pointer (some ⟨x, 0, none⟩)
/-- Bytes that are only read, in a block that ro has. -/
def BytesRo (w : World) (ro : Nat → Prop) (a : Option Addr) (xs : List UInt8) (cap : Nat) : Prop :=
  xs.length ≤ cap ∧ (xs.length = 0 ∨ ∃ b o, a = some ⟨b, o, none⟩ ∧ ro b ∧ b < w.heap.size ∧ ∀ i, i < xs.length → w.cell? ⟨b, o + i, none⟩ = some (.int .u8 (xs.getD i 0).toNat))
theorem BytesRo.bytes {w : World} {ro : Nat → Prop} {a : Option Addr} {xs : List UInt8} {cap : Nat} (h : BytesRo w ro a xs cap) : BytesIn w a xs cap :=
  ⟨h.1, h.2.imp id fun ⟨b, o, e, _, _, hc⟩ => ⟨b, o, e, hc⟩⟩
theorem BytesRo.chg {w w' : World} {ro : Nat → Prop} {a : Option Addr} {xs : List UInt8} {cap : Nat} (h : BytesRo w ro a xs cap) {S : Nat → Prop} (hc : Chg S w w') (hd : ∀ k, ro k → ¬ S k) : BytesRo w' ro a xs cap := by
  refine ⟨h.1, h.2.imp id ?_⟩
  rintro ⟨b, o, e, h1, h2, h3⟩
  refine ⟨b, o, e, h1, Nat.lt_of_lt_of_le h2 hc.size, fun i hi => ?_⟩
  rw [World.cell?_of_block (w := w) (hc.block b h2 (hd b h1))]
  exact h3 i hi
mutual
/-- Node x of a tree, in its own blocks, of bytes in ro. -/
def NodeAt (w : World) (ro : Nat → Prop) : RT → Nat → List Nat → Prop
  | .mk b v k, x, own => ∃ a ca kv xs rows, w.heap[x]? = some (.cells #[.slice a b.length ca, kv, vC v] 89 (0, 0)) ∧ BytesRo w ro a b ca ∧
      SliceIs w 0 86 kv k.length (xs.map ptrV) ∧ NodesAt w ro k xs rows ∧ own = x :: ((vblock kv).toList ++ rows)
def NodesAt (w : World) (ro : Nat → Prop) : List RT → List Nat → List Nat → Prop
  | [], xs, own => xs = [] ∧ own = []
  | t :: l, xs, own => ∃ x ys o1 o2, xs = x :: ys ∧ NodeAt w ro t x o1 ∧ NodesAt w ro l ys o2 ∧ own = o1 ++ o2
end
theorem mem_vblock {v : Value} {k : Nat} (h : vblock v = some k) : k ∈ (vblock v).toList := by rw [h]; simp
mutual
theorem NodeAt.chg {w w' : World} {ro S : Nat → Prop} (hc : Chg S w w') (hr : ∀ k, ro k → ¬ S k) : ∀ {t : RT} {x : Nat} {own : List Nat}, NodeAt w ro t x own → (∀ k ∈ own, ¬ S k) → NodeAt w' ro t x own
  | .mk b v k, x, own, h, hd => by
    rw [NodeAt] at h ⊢
    obtain ⟨a, ca, kv, xs, rows, h1, h2, h3, h4, rfl⟩ := h
    refine ⟨a, ca, kv, xs, rows, hc.keep h1 (hd x (by simp)), h2.chg hc hr, h3.chg hc fun g hg => hd g (by simp [mem_vblock hg]), NodesAt.chg hc hr h4 fun g hg => hd g (by simp [hg]), rfl⟩
theorem NodesAt.chg {w w' : World} {ro S : Nat → Prop} (hc : Chg S w w') (hr : ∀ k, ro k → ¬ S k) : ∀ {l : List RT} {xs own : List Nat}, NodesAt w ro l xs own → (∀ k ∈ own, ¬ S k) → NodesAt w' ro l xs own
  | [], xs, own, h, hd => by
    rw [NodesAt] at h ⊢
    exact h
  | t :: l, xs, own, h, hd => by
    rw [NodesAt] at h ⊢
    obtain ⟨x, ys, o1, o2, h1, h2, h3, rfl⟩ := h
    exact ⟨x, ys, o1, o2, h1, NodeAt.chg hc hr h2 fun g hg => hd g (by simp [hg]), NodesAt.chg hc hr h3 fun g hg => hd g (by simp [hg]), rfl⟩
end
mutual
theorem NodeAt.ro {w : World} {ro ro' : Nat → Prop} (hr : ∀ k, ro k → ro' k) : ∀ {t : RT} {x : Nat} {own : List Nat}, NodeAt w ro t x own → NodeAt w ro' t x own
  | .mk b v k, x, own, h => by
    rw [NodeAt] at h ⊢
    obtain ⟨a, ca, kv, xs, rows, h1, h2, h3, h4, h5⟩ := h
    exact ⟨a, ca, kv, xs, rows, h1, ⟨h2.1, h2.2.imp id fun ⟨g, o, e, q, r⟩ => ⟨g, o, e, hr g q, r⟩⟩, h3, NodesAt.ro hr h4, h5⟩
theorem NodesAt.ro {w : World} {ro ro' : Nat → Prop} (hr : ∀ k, ro k → ro' k) : ∀ {l : List RT} {xs own : List Nat}, NodesAt w ro l xs own → NodesAt w ro' l xs own
  | [], xs, own, h => by
    rw [NodesAt] at h ⊢
    exact h
  | t :: l, xs, own, h => by
    rw [NodesAt] at h ⊢
    obtain ⟨x, ys, o1, o2, h1, h2, h3, h4⟩ := h
    exact ⟨x, ys, o1, o2, h1, NodeAt.ro hr h2, NodesAt.ro hr h3, h4⟩
end
theorem radNew (w : World) : Calls Tryz.prog 54 #[] w fun e w' => e = .returned (ptrV w.heap.size) ∧ w' = w.alloc (.cells #[.bool true, .pointer none, .int .i64 0] 94) := by
  go_enter Tryz.func54, Tryz.ntmps54
  go_wp2_with fail
  go_ret
  exact ⟨rfl, rfl⟩
theorem radLen {w : World} {p : Nat} {v : Value} {n : Int} (h : w.heap[p]? = some (.cells #[.bool true, v, .int .i64 n] 94 (0, 0))) :
    Calls Tryz.prog 59 #[ptrV p] w fun e w' => e = .returned (.int .i64 n) ∧ w = w' := by
  have c2 := cell_in h (i := 2) rfl
  unfold ptrV
  go_enter Tryz.func59, Tryz.ntmps59
  go_wp2_with fail
  go_ret
  exact ⟨rfl, rfl⟩
end Go.Proofs.YtmaemgihhipllaaGreatDoor.Sad

/- radix: seek's test. -/
namespace Go.Proofs.YtmaemgihhipllaaGreatDoor.Sad
open Go.Proofs.YtmaemgihhipllaaGreatDoor
set_option linter.unusedVariables false
set_option linter.unusedSimpArgs false
open Go.RowKit
set_option maxHeartbeats 800000 in
set_option maxRecDepth 100000 in
theorem radSeek1 {w : World} {bx bc x g o n cap i y b p m cm : Nat} {c f : Int} (h1 : w.cell? ⟨bx, 0, none⟩ = some (ptrV x)) (h2 : w.cell? ⟨bc, 0, none⟩ = some (.int .u8 c))
    (h3 : w.cell? ⟨x, 1, none⟩ = some (.slice (some ⟨g, o, none⟩) n cap)) (hi : i < n) (hn : n ≤ 1000000) (h4 : w.cell? ⟨g, o + i, none⟩ = some (ptrV y))
    (h5 : w.cell? ⟨y, 0, none⟩ = some (.slice (some ⟨b, p, none⟩) m cm)) (hm : 0 < m) (h6 : w.cell? ⟨b, p, none⟩ = some (.int .u8 f)) :
    Calls Tryz.prog 98 #[.int .i64 i, .pointer (some ⟨bx, 0, none⟩), .pointer (some ⟨bc, 0, none⟩)] w fun e w' => e = .returned (.bool (decide (c ≤ f))) ∧ ∃ k, w' = w.drewN k := by
  unfold ptrV at *
  obtain ⟨X1, fx, hX1, hf, hF⟩ := classOf (fun q : World => q.cell? ⟨bx, 0, none⟩ = some (.pointer (some ⟨x, 0, none⟩)) ∧ q.cell? ⟨bc, 0, none⟩ = some (.int .u8 c) ∧ q.cell? ⟨x, 1, none⟩ = some (.slice (some ⟨g, o, none⟩) n cap) ∧
    q.cell? ⟨g, o + i, none⟩ = some (.pointer (some ⟨y, 0, none⟩)) ∧ q.cell? ⟨y, 0, none⟩ = some (.slice (some ⟨b, p, none⟩) m cm) ∧ q.cell? ⟨b, p, none⟩ = some (.int .u8 f)) ⟨h1, h2, h3, h4, h5, h6⟩
  have f1 := fun q => (hf q).1
  have f2 := fun q => (hf q).2.1
  have f3 := fun q => (hf q).2.2.1
  have f4 := fun q => (hf q).2.2.2.1
  have f5 := fun q => (hf q).2.2.2.2.1
  have f6 := fun q => (hf q).2.2.2.2.2
  have HF := Lib.hid (hF w.drew ⟨h1, h2, h3, h4, h5, h6⟩)
  clear hF hf h1 h2 h3 h4 h5 h6
  go_enter Tryz.func98, Tryz.ntmps98
  go_wp2_with fail
  refine wp_region_text ⟨[], [], 15⟩ (fun w' => ∃ x : X1, w' = fx x) (by kernel_rfl) (by kernel_rfl) HF.out ?_
  refine wpC_seg false (HF.out) 15 0 _ _ (by rfl) (by rfl) ?_
  simp only [List.take_succ_cons, List.take_zero, List.drop_succ_cons, List.drop_zero, Bool.false_eq_true, if_false, Nat.zero_add, Nat.reduceAdd]
  repeat (go_big_quiet_step (fail))
  refine wpQuiet_nil ?_
  refine wpC_nil ?_
  go_wp2_with fail
  go_ret
  exact ⟨rfl, 1, rfl⟩
end Go.Proofs.YtmaemgihhipllaaGreatDoor.Sad

/- radix: the nodes below one, each by its place. -/
namespace Go.Proofs.YtmaemgihhipllaaGreatDoor.Sad
open Go.Proofs.YtmaemgihhipllaaGreatDoor
set_option linter.unusedVariables false
set_option linter.unusedSimpArgs false
open Go.RowKit
theorem NodesAt.length {w : World} {ro : Nat → Prop} : ∀ {l : List RT} {xs own : List Nat}, NodesAt w ro l xs own → xs.length = l.length
  | [], xs, own, h => by rw [NodesAt] at h; simp [h.1]
  | t :: l, xs, own, h => by
    rw [NodesAt] at h
    obtain ⟨x, ys, o1, o2, rfl, _, h3, _⟩ := h
    simp [NodesAt.length h3]
theorem NodesAt.get {w : World} {ro : Nat → Prop} : ∀ {l : List RT} {xs own : List Nat}, NodesAt w ro l xs own → ∀ i (h : i < l.length), ∃ o, NodeAt w ro l[i] (xs.getD i 0) o ∧ ∀ k ∈ o, k ∈ own
  | [], xs, own, h, i, hi => by simp at hi
  | t :: l, xs, own, h, i, hi => by
    rw [NodesAt] at h
    obtain ⟨x, ys, o1, o2, rfl, h2, h3, rfl⟩ := h
    cases i with
    | zero => exact ⟨o1, by simpa using h2, fun k hk => by simp [hk]⟩
    | succ i =>
      obtain ⟨o, h4, h5⟩ := NodesAt.get h3 i (by simpa using hi)
      exact ⟨o, by simpa using h4, fun k hk => by simp [h5 k hk]⟩
/-- What seek reads of the node at place i. -/
theorem kid_cells {w : World} {ro : Nat → Prop} {b : List UInt8} {v : VT} {k : List RT} {x : Nat} {own : List Nat} (h : NodeAt w ro (.mk b v k) x own) (hb : ∀ u ∈ k, u.begin ≠ []) {i : Nat} (hi : i < k.length) :
    ∃ g cap y q p m cm, w.cell? ⟨x, 1, none⟩ = some (.slice (some ⟨g, 0, none⟩) k.length cap) ∧ w.cell? ⟨g, i, none⟩ = some (ptrV y) ∧ w.cell? ⟨y, 0, none⟩ = some (.slice (some ⟨q, p, none⟩) m cm) ∧ 0 < m ∧
      w.cell? ⟨q, p, none⟩ = some (.int .u8 (k[i].first).toNat) := by
  rw [NodeAt] at h
  obtain ⟨a, ca, kv, xs, rows, h1, h2, h3, h4, _⟩ := h
  have hl := h4.length
  obtain ⟨o, h5, _⟩ := h4.get i hi
  have hbi := hb k[i] (List.getElem_mem hi)
  obtain ⟨c, u, kk, hk⟩ : ∃ c u kk, k[i] = .mk c u kk := by cases k[i]; exact ⟨_, _, _, rfl⟩
  rw [hk] at h5 hbi ⊢
  rw [NodeAt] at h5
  obtain ⟨a', ca', kv', xs', rows', g1, g2, _⟩ := h5
  have hc : 0 < c.length := List.length_pos_iff.2 hbi
  obtain ⟨q, p, rfl, _, _, hq⟩ := g2.2.resolve_left (by omega)
  rcases h3.2 with ⟨_, h0⟩ | ⟨g, cap, cur, rfl, _, hrow, _, _, _, htk⟩
  · omega
  · refine ⟨g, cap, xs.getD i 0, q, p, c.length, ca', cell_in h1 (i := 1) rfl, hrow.cell ?_, cell_in g1 (i := 0) rfl, hc, by have := hq 0 hc; rw [Nat.add_zero] at this; exact this⟩
    have e := congrArg (fun l => l[i]?) htk
    simp only [List.getElem?_take_of_lt hi] at e
    rw [← Array.getElem?_toList, e]
    simp [List.getD, show i < xs.length by omega]
end Go.Proofs.YtmaemgihhipllaaGreatDoor.Sad

/- radix: seek. -/
namespace Go.Proofs.YtmaemgihhipllaaGreatDoor.Sad
open Go.Proofs.YtmaemgihhipllaaGreatDoor
set_option linter.unusedVariables false
set_option linter.unusedSimpArgs false
open Go.RowKit
/-- Where a byte stands among rising ones. -/
def PlaceB (fs : List UInt8) (c : UInt8) (r : Nat) : Prop := r ≤ fs.length ∧ (∀ i, i < r → fs.getD i 0 < c) ∧ (∀ i, r ≤ i → i < fs.length → c ≤ fs.getD i 0)
set_option maxHeartbeats 1600000 in
set_option maxRecDepth 100000 in
theorem radSeek {w : World} {ro : Nat → Prop} {b : List UInt8} {v : VT} {k : List RT} {x : Nat} {own : List Nat} (h : NodeAt w ro (.mk b v k) x own) (hb : ∀ u ∈ k, u.begin ≠ []) (hr : (k.map RT.first).Pairwise (· < ·)) (hn : k.length ≤ 1000) (c : UInt8) :
    Calls Tryz.prog 89 #[ptrV x, .int .u8 c.toNat] w fun e w' => ∃ r, PlaceB (k.map RT.first) c r ∧ e = .returned (.tuple #[.int .i64 r, .bool (decide (r < k.length ∧ (k.map RT.first).getD r 0 = c))]) ∧ Below w.heap.size w w' := by
  obtain ⟨w1, hw1⟩ : ∃ w1, w1 = (w.alloc (.cells #[ptrV x] 86)).alloc (.cells #[.int .u8 c.toNat] 5) := ⟨_, rfl⟩
  have hb1 : Below w.heap.size w w1 := by rw [hw1]; exact ((Below.refl _ _).alloc (Nat.le_refl _) _).alloc (by simp) _
  have q1 : ∀ m, (w1.drewN m).cell? ⟨w.heap.size, 0, none⟩ = some (ptrV x) := fun m => by rw [hw1]; unfold ptrV; go_simp
  have q2 : ∀ m, (w1.drewN m).cell? ⟨w.heap.size + 1, 0, none⟩ = some (.int .u8 c.toNat) := fun m => by rw [hw1]; unfold ptrV; go_simp
  have hN := fun m => NodeAt.chg (Chg.drewN (fun _ => False) w1 m) (fun _ _ => id) (NodeAt.chg (Chg.of_below (fun _ => False) hb1) (fun _ _ => id) h fun _ _ => id) fun _ _ => id
  have hF : ∀ i, i < k.length → ∀ m, Calls Tryz.prog 98 (#[.int .i64 i] ++ #[.pointer (some ⟨w.heap.size, 0, none⟩), .pointer (some ⟨w.heap.size + 1, 0, none⟩)]) (w1.drewN m) fun e w' => e = .returned (.bool (decide ((c.toNat : Int) ≤ ((k.map RT.first).getD i 0).toNat))) ∧ ∃ m', w' = (w1.drewN m).drewN m' := fun i hi m => by
    obtain ⟨g, cap, y, q, p, mm, cm, k1, k2, k3, k4, k5⟩ := kid_cells (hN m) hb hi
    have := radSeek1 (o := 0) (i := i) (q1 m) (q2 m) k1 hi (by omega) (by rw [Nat.zero_add]; exact k2) k3 k4 k5
    rw [show ((k.map RT.first).getD i 0) = k[i].first by simp [List.getD, hi]]
    exact this
  have hkv : ∃ a cap, w.cell? ⟨x, 1, none⟩ = some (.slice a k.length cap) := by
    have h0 := h
    rw [NodeAt] at h0
    obtain ⟨a, ca, kv, xs, rows, h1, _, h3, _⟩ := h0
    obtain ⟨a', cap', rfl, _⟩ := h3.arg
    exact ⟨a', cap', cell_in h1 (i := 1) rfl⟩
  obtain ⟨a, cap, ew⟩ := hkv
  have hx : x < w.heap.size := World.block_lt_of_cell? w _ ew
  have hkv : ∀ m, (w1.drewN m).cell? ⟨x, 1, none⟩ = some (.slice a k.length cap) := fun m => (hb1.cell (p := ⟨x, 1, none⟩) (World.block_lt_of_cell? w _ ew)).trans ew
  have HS := Lib.hid (search_any k.length 98 #[.pointer (some ⟨w.heap.size, 0, none⟩), .pointer (some ⟨w.heap.size + 1, 0, none⟩)] (fun i => decide ((c.toNat : Int) ≤ ((k.map RT.first).getD i 0).toNat)) w1 (by omega) (fun w args => rfl) hF
    (fun i j hij hj hx => by
      simp only [decide_eq_true_eq] at hx ⊢
      rcases Nat.lt_or_ge i j with hlt | hge
      · have := List.pairwise_iff_getElem.1 hr i j (by simp; omega) (by simpa using hj) hlt
        rw [UInt8.lt_iff_toNat_lt] at this
        simp [List.getD, hj, show i < k.length by omega] at hx this ⊢
        omega
      · obtain rfl : i = j := by omega
        exact hx))
  have HW := Lib.hid hw1
  have HB := Lib.hid hb1
  have HN := Lib.hid hN
  have e0 := q1 0
  have e1 := hkv 0
  rw [World.drewN_zero] at e0 e1
  have HQ := Lib.hid (And.intro q1 (And.intro q2 hkv))
  have hkv2 := hkv 0
  rw [World.drewN_zero, HW.out] at hkv2
  unfold ptrV at *
  clear hw1 hb1 hN hF q1 q2 hkv h
  go_enter Tryz.func89, Tryz.ntmps89
  go_wp2_with fail
  rw [← HW.out]
  refine HS.out.mono ?_
  rintro e w' ⟨r, hrl, rfl, p1, p2, m, rfl⟩
  have HP : Hid (PlaceB (k.map RT.first) c r) := Lib.hid ⟨by simpa using hrl, fun i hi => by
    have := p1 i hi
    simp only [decide_eq_false_iff_not] at this
    rw [UInt8.lt_iff_toNat_lt]; omega, fun i h1 h2 => by
    have := p2 i h1 (by simpa using h2)
    simp only [decide_eq_true_eq] at this
    rw [UInt8.le_iff_toNat_le]; omega⟩
  have e2 := HQ.out.1 m
  have e3 := HQ.out.2.1 m
  have e4 := HQ.out.2.2 m
  have HBm := Lib.hid (belowN HB.out (m + 1))
  rcases Nat.lt_or_ge r k.length with hlt | hge
  · obtain ⟨g, cap', y, q, p, mm, cm, k1, k2, k3, k4, k5⟩ := kid_cells (HN.out m) hb hlt
    have hfr : (k.map RT.first).getD r 0 = k[r].first := by simp [List.getD, hlt]
    have hbe : (((k[r].first.toNat : Nat) : Int) == (c.toNat : Int)) = decide (r < k.length ∧ (k.map RT.first).getD r 0 = c) := by
      rw [hfr, Bool.eq_iff_iff, beq_iff_eq, decide_eq_true_eq, Int.ofNat_inj, UInt8.toNat_inj]
      exact ⟨fun h => ⟨hlt, h⟩, fun h => h.2⟩
    rw [e4] at k1
    obtain ⟨rfl, rfl⟩ : a = some ⟨g, 0, none⟩ ∧ cap = cap' := by simpa using k1
    clear k1
    obtain ⟨X1, fx, hX1, hf, hF⟩ := classOf (fun z : World => z.cell? ⟨w.heap.size, 0, none⟩ = some (.pointer (some ⟨x, 0, none⟩)) ∧ z.cell? ⟨w.heap.size + 1, 0, none⟩ = some (.int .u8 c.toNat) ∧ z.cell? ⟨x, 1, none⟩ = some (.slice (some ⟨g, 0, none⟩) k.length cap) ∧
      z.cell? ⟨g, r, none⟩ = some (.pointer (some ⟨y, 0, none⟩)) ∧ z.cell? ⟨y, 0, none⟩ = some (.slice (some ⟨q, p, none⟩) mm cm) ∧ z.cell? ⟨q, p, none⟩ = some (.int .u8 k[r].first.toNat)) ⟨e2, e3, e4, k2, k3, k5⟩
    have f1 := fun z => (hf z).1
    have f2 := fun z => (hf z).2.1
    have f3 := fun z => (hf z).2.2.1
    have f4 := fun z => (hf z).2.2.2.1
    have f5 := fun z => (hf z).2.2.2.2.1
    have f6 := fun z => (hf z).2.2.2.2.2
    have HF := Lib.hid (hF (w1.drewN m).drew ⟨e2, e3, e4, k2, k3, k5⟩)
    have HBe := Lib.hid hbe
    clear hF hf e2 e3 e4 k2 k3 k5 hfr hbe ew hkv2 e0 e1
    go_wp2_with fail
    refine wp_region_text ⟨[], [], 26⟩ (fun w' => ∃ x : X1, w' = fx x) (by kernel_rfl) (by kernel_rfl) HF.out ?_
    refine wpC_seg false (HF.out) 26 0 _ _ (by rfl) (by rfl) ?_
    simp only [List.take_succ_cons, List.take_zero, List.drop_succ_cons, List.drop_zero, Bool.false_eq_true, if_false, Nat.zero_add, Nat.reduceAdd]
    repeat (go_big_quiet_step (fail))
    refine wpQuiet_nil ?_
    refine wpC_nil ?_
    clear f1 f2 f3 f4 f5 f6 HF hX1
    go_wp2_with fail
    go_ret2
    exact ⟨r, HP.out, by rw [← HBe.out]; rfl, HBm.out⟩
  · have hno : decide (r < k.length ∧ (k.map RT.first).getD r 0 = c) = false := by simp; omega
    have HNo := Lib.hid hno
    have e5 : decide (r < k.length) = false := by simp; omega
    obtain ⟨X1, fx, hX1, hf, hF⟩ := classOf (fun z : World => z.cell? ⟨w.heap.size, 0, none⟩ = some (.pointer (some ⟨x, 0, none⟩)) ∧ z.cell? ⟨x, 1, none⟩ = some (.slice a k.length cap)) ⟨e2, e4⟩
    have f1 := fun z => (hf z).1
    have f3 := fun z => (hf z).2
    have HF := Lib.hid (hF (w1.drewN m).drew ⟨e2, e4⟩)
    clear hF hf e2 e3 e4 ew hkv2 e0 e1 hno
    go_wp2_with fail
    refine wp_region_text ⟨[], [], 26⟩ (fun w' => ∃ x : X1, w' = fx x) (by kernel_rfl) (by kernel_rfl) HF.out ?_
    refine wpC_seg false (HF.out) 26 0 _ _ (by rfl) (by rfl) ?_
    simp only [List.take_succ_cons, List.take_zero, List.drop_succ_cons, List.drop_zero, Bool.false_eq_true, if_false, Nat.zero_add, Nat.reduceAdd]
    repeat (go_big_quiet_step (fail))
    refine wpQuiet_nil ?_
    refine wpC_nil ?_
    clear f1 f3 HF hX1
    go_wp2_with fail
    go_ret2
    exact ⟨r, HP.out, by rw [HNo.out]; rfl, HBm.out⟩
end Go.Proofs.YtmaemgihhipllaaGreatDoor.Sad

/- radix: a way down a tree, and what a change at its end makes of the tree. -/
namespace Go.Proofs.YtmaemgihhipllaaGreatDoor.Sad
open Go.Proofs.YtmaemgihhipllaaGreatDoor
set_option linter.unusedVariables false
set_option linter.unusedSimpArgs false
open Go.RowKit RT
/-- Block g is as it was, but for one cell. -/
def SetAt (w w' : World) (g i : Nat) (u : Value) : Prop := ∀ cs E fz, w.heap[g]? = some (.cells cs E fz) → w'.heap[g]? = some (.cells (cs.setIfInBounds i u) E fz)
theorem slot_set {w w' : World} {B : Nat} {e : TypeId} {v : Value} {n g i : Nat} {xs : List Value} {u : Value} (h : SliceIs w B e v n xs) (hg : vblock v = some g) (hs : SetAt w w' g i u) (hi : i < n) : SliceIs w' B e v n (xs.set i u) := by
  refine ⟨by simp [h.1], ?_⟩
  rcases h.2 with ⟨rfl, rfl⟩ | ⟨g', cap, cur, rfl, h2, ⟨fz, h3, h4⟩, h5, h6, h7, h8⟩
  · cases hg
  · cases hg
    refine .inr ⟨g', cap, cur.setIfInBounds i u, rfl, h2, ⟨fz, by simpa using h3, hs _ _ _ h4⟩, by simpa using h5, h6, h7, ?_⟩
    rw [← h8, Array.toList_setIfInBounds, List.take_set]
theorem NodesAt.cut {w : World} {ro : Nat → Prop} : ∀ {l : List RT} {xs own : List Nat}, NodesAt w ro l xs own → ∀ i (h : i < l.length), ∃ pre oi post, own = pre ++ (oi ++ post) ∧ NodeAt w ro l[i] (xs.getD i 0) oi ∧
    ∀ (S ro' : Nat → Prop) (w' : World) (u' : RT) (y' : Nat) (oi' : List Nat), Chg S w w' → (∀ k ∈ pre ++ post, ¬ S k) → (∀ k, ro k → ro' k ∧ ¬ S k) → NodeAt w' ro' u' y' oi' → NodesAt w' ro' (l.set i u') (xs.set i y') (pre ++ (oi' ++ post))
  | [], xs, own, h, i, hi => by simp at hi
  | t :: l, xs, own, h, i, hi => by
    rw [NodesAt] at h
    obtain ⟨x, ys, o1, o2, rfl, h2, h3, rfl⟩ := h
    cases i with
    | zero =>
      refine ⟨[], o1, o2, rfl, by simpa using h2, fun S ro' w' u' y' oi' hc hS hr hn => ?_⟩
      simp only [List.set_cons_zero, List.nil_append]
      rw [NodesAt]
      exact ⟨y', ys, oi', o2, rfl, hn, (h3.chg hc (fun k hk => (hr k hk).2) (fun k hk => hS k (by simpa using hk))).ro fun k hk => (hr k hk).1, rfl⟩
    | succ i =>
      obtain ⟨pre, oi, post, rfl, h4, h5⟩ := NodesAt.cut h3 i (by simpa using hi)
      refine ⟨o1 ++ pre, oi, post, by simp, by simpa using h4, fun S ro' w' u' y' oi' hc hS hr hn => ?_⟩
      simp only [List.set_cons_succ]
      rw [NodesAt]
      refine ⟨x, ys.set i y', o1, pre ++ (oi' ++ post), rfl, (h2.chg hc (fun k hk => (hr k hk).2) fun k hk => hS k (by simp [hk])).ro fun k hk => (hr k hk).1, h5 S ro' w' u' y' oi' hc (fun k hk => hS k (by rcases List.mem_append.1 hk with h | h <;> simp [h])) hr hn, by simp⟩
/-- Node z is the one at place i below node y, of the row g. -/
def KidAt (w : World) (ro : Nat → Prop) (b : List UInt8) (v : VT) (k : List RT) (y : Nat) (o : List Nat) (i z : Nat) (oi : List Nat) (g : Nat) : Prop :=
  ∃ a ca kv xs pre post, w.heap[y]? = some (.cells #[.slice a b.length ca, kv, vC v] 89 (0, 0)) ∧ BytesRo w ro a b ca ∧ SliceIs w 0 86 kv k.length (xs.map ptrV) ∧
    vblock kv = some g ∧ z = xs.getD i 0 ∧ i < k.length ∧ o = y :: ((vblock kv).toList ++ (pre ++ (oi ++ post))) ∧ NodesAt w ro k xs (pre ++ (oi ++ post)) ∧
    (∀ (h : i < k.length), NodeAt w ro k[i] z oi) ∧
    ∀ (S ro' : Nat → Prop) (w' : World) (u' : RT) (y' : Nat) (oi' : List Nat), Chg S w w' → (∀ k ∈ pre ++ post, ¬ S k) → (∀ k, ro k → ro' k ∧ ¬ S k) → NodeAt w' ro' u' y' oi' → NodesAt w' ro' (k.set i u') (xs.set i y') (pre ++ (oi' ++ post))
theorem kid_of {w : World} {ro : Nat → Prop} {b : List UInt8} {v : VT} {k : List RT} {y : Nat} {o : List Nat} (h : NodeAt w ro (.mk b v k) y o) {i : Nat} (hi : i < k.length) : ∃ z oi g, KidAt w ro b v k y o i z oi g := by
  rw [NodeAt] at h
  obtain ⟨a, ca, kv, xs, rows, h1, h2, h3, h4, h5⟩ := h
  obtain ⟨pre, oi, post, rfl, h6, h7⟩ := h4.cut i hi
  obtain ⟨g, hg⟩ : ∃ g, vblock kv = some g := by
    rcases h3.2 with ⟨_, h0⟩ | ⟨g, _, _, rfl, _⟩
    · omega
    · exact ⟨g, rfl⟩
  exact ⟨_, oi, g, a, ca, kv, xs, pre, post, h1, h2, h3, hg, rfl, hi, h5, h4, fun _ => h6, h7⟩
/-- A tree with a root, its own blocks in a list. -/
def RootAt (w : World) (ro : Nat → Prop) (p n : Nat) (t : RT) (x : Nat) (own : List Nat) : Prop :=
  w.heap[p]? = some (.cells #[.bool true, ptrV x, .int .i64 n] 94 (0, 0)) ∧ NodeAt w ro t x own ∧ (p :: own).Nodup ∧ ∀ k ∈ p :: own, ¬ ro k ∧ k < w.heap.size
/-- A way down tree p, of bytes s: it ends at node y (the subtree u, of blocks o; the bytes s' are left), whose pointer lies in the cell A; above: the nodes above; K: the whole tree out of the subtree. -/
inductive Way (w : World) (ro : Nat → Prop) (p n : Nat) (t : RT) (x : Nat) (own : List Nat) (s : List UInt8) : RT → Nat → List Nat → List UInt8 → List Nat → Nat → Nat → (RT → RT) → Prop
  | here (h : RootAt w ro p n t x own) : Way w ro p n t x own s t x own s [] p 1 id
  | down {b : List UInt8} {v : VT} {k : List RT} {y : Nat} {o : List Nat} {s' : List UInt8} {ab : List Nat} {c d : Nat} {K : RT → RT} {i z : Nat} {oi : List Nat} {g : Nat} {u : RT}
      (h : Way w ro p n t x own s (.mk b v k) y o (b ++ s') ab c d K) (hk : KidAt w ro b v k y o i z oi g) (hu : k[i]? = some u) (hs : s' ≠ []) (hf : u.first = s'.getD 0 0) :
      Way w ro p n t x own s u z oi s' (ab ++ [y]) g i fun u' => K (.mk b v (k.set i u'))
section
variable {w : World} {ro : Nat → Prop} {p n : Nat} {t : RT} {x : Nat} {own : List Nat} {s : List UInt8} {u : RT} {y : Nat} {o : List Nat} {s' : List UInt8} {ab : List Nat} {c d : Nat} {K : RT → RT}
theorem Way.root (h : Way w ro p n t x own s u y o s' ab c d K) : RootAt w ro p n t x own := by
  induction h with
  | here h => exact h
  | down _ _ _ _ _ ih => exact ih
theorem Way.node (h : Way w ro p n t x own s u y o s' ab c d K) : NodeAt w ro u y o := by
  cases h with
  | here h => exact h.2.1
  | down h hk hu hs hf =>
    obtain ⟨a, ca, kv, xs, pre, post, h1, h2, h3, h4, h5, h6, h7, h8, h9, h10⟩ := hk
    obtain ⟨hi, hu⟩ := List.getElem?_eq_some_iff.1 hu
    rw [← hu]; exact h9 h6
theorem Way.sub (h : Way w ro p n t x own s u y o s' ab c d K) : (∀ k ∈ o, k ∈ own) ∧ o.Nodup ∧ c ∉ o ∧ c ∈ p :: own := by
  induction h with
  | here h =>
    have := h.2.2.1
    rw [List.nodup_cons] at this
    exact ⟨fun _ h => h, this.2, this.1, by simp⟩
  | down h hk hu hs hf ih =>
    obtain ⟨a, ca, kv, xs, pre, post, h1, h2, h3, h4, h5, h6, h7, h8, h9, h10⟩ := hk
    obtain ⟨i1, i2, i3, i4⟩ := ih
    rw [h4] at h7
    subst h7
    simp only [Option.toList_some, List.nodup_cons, List.nodup_append, List.singleton_append, List.mem_cons, List.mem_append, not_or] at i2
    refine ⟨fun k hk => i1 k (by simp [hk]), i2.2.2.2.1.1, i2.2.1.2.1, ?_⟩
    have := i1 _ (show _ ∈ _ by rw [Option.toList_some]; simp; right; left; rfl)
    simp [this]
theorem Way.cell (h : Way w ro p n t x own s u y o s' ab c d K) : w.cell? ⟨c, d, none⟩ = some (ptrV y) ∧ ∃ cs E, d < cs.size ∧ (∃ fz : Nat × Nat, (¬ (fz.1 ≤ d ∧ d < fz.2)) ∧ w.heap[c]? = some (.cells cs E fz)) ∧ cs[d]? = some (ptrV y) := by
  cases h with
  | here h => exact ⟨cell_in h.1 (i := 1) rfl, _, _, by simp, ⟨_, by simp, h.1⟩, rfl⟩
  | down h hk hu hs hf =>
    obtain ⟨a, ca, kv, xs, pre, post, h1, h2, h3, h4, h5, h6, h7, h8, h9, h10⟩ := hk
    have hl := h8.length
    rcases h3.2 with ⟨rfl, _⟩ | ⟨g, cap, cur, rfl, _, ⟨fz, hf1, hf2⟩, hcs, hcap, _, htk⟩
    · cases h4
    · cases h4
      have e := congrArg (fun l => l[d]?) htk
      simp only [List.getElem?_take_of_lt h6, Array.getElem?_toList] at e
      have e2 : cur[d]? = some (ptrV y) := by rw [e, h5]; simp [List.getD, show d < xs.length by omega]
      have hlt : d < cur.size := by omega
      exact ⟨cell_in hf2 e2, cur, _, hlt, ⟨fz, hf1 d hlt, hf2⟩, e2⟩
/-- What a change at the way's end makes of the tree. -/
theorem Way.back (h : Way w ro p n t x own s u y o s' ab c d K) : ∀ {w' : World} {ro' : Nat → Prop} {u' : RT} {y' : Nat} {o' : List Nat}, Chg (fun k => k ∈ o ∨ k = c) w w' → SetAt w w' c d (ptrV y') → NodeAt w' ro' u' y' o' →
    (∀ k, ro k → ro' k) → (∀ k, ro' k → ro k ∨ w.heap.size ≤ k) → o'.Nodup → (∀ k ∈ o', (k ∈ o ∨ w.heap.size ≤ k) ∧ ¬ ro' k ∧ k < w'.heap.size) →
    ∃ x' own', RootAt w' ro' p n (K u') x' own' ∧ ∀ k ∈ own', k ∈ own ∨ w.heap.size ≤ k := by
  induction h with
  | here h =>
    intro w' ro' u' y' o' hc hs hn hr hr' hd ho
    obtain ⟨h1, h2, h3, h4⟩ := h
    refine ⟨y', o', ⟨hs _ _ _ h1, hn, List.nodup_cons.2 ⟨fun hp => ?_, hd⟩, fun k hk => ?_⟩, fun k hk => (ho k hk).1⟩
    · rcases (ho _ hp).1 with hp | hp
      · exact (List.nodup_cons.1 h3).1 hp
      · have := (h4 p (by simp)).2; omega
    · rcases List.mem_cons.1 hk with rfl | hk
      · have := h4 k (by simp)
        have h5 := hc.size
        refine ⟨fun hk => ?_, by omega⟩
        rcases hr' k hk with hk | hk
        · exact this.1 hk
        · omega
      · exact (ho k hk).2
  | @down b v k y o s' ab c d K i z oi g u h hk hu hs hf ih =>
    intro w' ro' u' y' o' hc hset hn hr hr' hd ho
    have hroot := h.root
    have hsub := h.sub
    have hown : ∀ q ∈ own, ¬ ro q ∧ q < w.heap.size := fun q hq => hroot.2.2.2 q (by simp [hq])
    have hcell := h.cell
    obtain ⟨a, ca, kv, xs, pre, post, h1, h2, h3, h4, h5, h6, h7, h8, h9, h10⟩ := hk
    have hnd := hsub.2.1
    have hino := hsub.1
    have hcno := hsub.2.2.1
    have hcin := hsub.2.2.2
    rw [h7, h4] at hnd hcno
    simp only [Option.toList_some, List.nodup_cons, List.nodup_append, List.singleton_append, List.mem_cons, List.mem_append, not_or] at hnd hcno
    obtain ⟨⟨n1, n2, n3, n4⟩, ⟨n5, n6, n7⟩, n8, ⟨n9, n10, n11⟩, n12⟩ := hnd
    have hinO : ∀ q, (q = y ∨ q = g ∨ q ∈ pre ∨ q ∈ oi ∨ q ∈ post) → q ∈ o := fun q hq => by rw [h7, h4]; simpa using hq
    have hlt : ∀ q ∈ o, q < w.heap.size := fun q hq => (hown q (hino q hq)).2
    have hnr : ∀ q ∈ o, ¬ ro q := fun q hq => (hown q (hino q hq)).1
    have hl := h8.length
    -- the kid's node
    have hN : NodeAt w' ro' (.mk b v (k.set i u')) y (y :: ((vblock kv).toList ++ (pre ++ (o' ++ post)))) := by
      rw [NodeAt]
      refine ⟨a, ca, kv, xs.set i y', pre ++ (o' ++ post), hc.keep h1 (by rw [not_or]; exact ⟨n3, n1⟩), ?_, ?_, ?_, rfl⟩
      · have := h2.chg hc (fun q hq hS => ?_)
        · exact ⟨this.1, this.2.imp id fun ⟨q, e, r1, r2, r3⟩ => ⟨q, e, r1, hr q r2, r3⟩⟩
        · rcases hS with hS | rfl
          · exact hnr q (hinO q (by simp [hS])) hq
          · exact hnr q (hinO q (by simp)) hq
      · have := slot_set h3 h4 hset h6
        rw [List.map_set, List.length_set]
        exact this
      · refine h10 _ ro' w' u' y' o' hc (fun q hq hS => ?_) (fun q hq => ⟨hr q hq, fun hS => ?_⟩) hn
        · rcases hS with hS | rfl
          · rcases List.mem_append.1 hq with hq | hq
            · exact n12 q hq q (by simp [hS]) rfl
            · exact n11 q hS q hq rfl
          · rcases List.mem_append.1 hq with hq | hq
            · exact n5 hq
            · exact n7 hq
        · rcases hS with hS | rfl
          · exact hnr q (hinO q (by simp [hS])) hq
          · exact hnr q (hinO q (by simp)) hq
    have hgo : g ∈ o := hinO g (by simp)
    have hyo : y ∈ o := hinO y (by simp)
    have hnew : ∀ q ∈ o', q ∈ oi ∨ w.heap.size ≤ q := fun q hq => (ho q hq).1
    have hcg : c ≠ g := fun e => hcno.2.1 e
    have hset' : SetAt w w' c d (ptrV y) := by
      intro cs E fz hcs
      obtain ⟨_, cs', E', _, ⟨fz', _, hh⟩, hv⟩ := hcell
      rw [hcs] at hh
      cases hh
      have e : cs.setIfInBounds d (ptrV y) = cs := by
        apply Array.ext_getElem?
        intro j
        rw [Array.getElem?_setIfInBounds]
        split
        · next hj =>
          subst hj
          rw [hv]
        · rfl
      rw [e]
      refine hc.keep hcs ?_
      rintro (hS | rfl)
      · exact hcno.2.2.2.1 hS
      · exact hcg rfl
    have g1 : (y :: ((vblock kv).toList ++ (pre ++ (o' ++ post)))).Nodup := by
      rw [h4]
      simp only [Option.toList_some, List.nodup_cons, List.nodup_append, List.singleton_append, List.mem_cons, List.mem_append, not_or]
      have hfr : ∀ q ∈ o, q ∉ oi → q ∉ o' := fun q hq hno hq' => by
        rcases hnew q hq' with h | h
        · exact hno h
        · have := hlt q hq; omega
      refine ⟨⟨n1, n2, hfr y hyo n3, n4⟩, ⟨n5, hfr g hgo n6, n7⟩, n8, ⟨hd, n10, ?_⟩, ?_⟩
      · intro q hq q' hq' e
        subst e
        exact hfr q (hinO q (by simp [hq'])) (fun hh => n11 q hh q hq' rfl) hq
      · intro q hq q' hq' e
        subst e
        rcases hq' with hq' | hq'
        · exact hfr q (hinO q (by simp [hq])) (fun hh => n12 q hq q (by simp [hh]) rfl) hq'
        · exact n12 q hq q (by simp [hq']) rfl
    have g2 : ∀ q ∈ (y :: ((vblock kv).toList ++ (pre ++ (o' ++ post)))), (q ∈ o ∨ w.heap.size ≤ q) ∧ ¬ ro' q ∧ q < w'.heap.size := by
      intro q hq
      have old : q ∈ o → (q ∈ o ∨ w.heap.size ≤ q) ∧ ¬ ro' q ∧ q < w'.heap.size := fun hq => ⟨.inl hq, fun hh => by
        rcases hr' q hh with hh | hh
        · exact hnr q hq hh
        · have := hlt q hq; omega, Nat.lt_of_lt_of_le (hlt q hq) hc.size⟩
      rw [h4] at hq
      simp only [Option.toList_some, List.singleton_append, List.mem_cons, List.mem_append] at hq
      rcases hq with hq | hq | hq | hq | hq
      · exact old (hinO q (by simp [hq]))
      · exact old (hinO q (by simp [hq]))
      · exact old (hinO q (by simp [hq]))
      · refine ⟨?_, (ho q hq).2⟩
        rcases (ho q hq).1 with h | h
        · exact .inl (hinO q (by simp [h]))
        · exact .inr h
      · exact old (hinO q (by simp [hq]))
    exact ih (hc.mono fun q hq _ => by
        rcases hq with hq | rfl
        · exact .inl (hinO q (by simp [hq]))
        · exact .inl hgo) hset' hN hr hr' g1 g2
end
end Go.Proofs.YtmaemgihhipllaaGreatDoor.Sad

/- radix: a way down a tree in plain Lean: what is there, what a put and a deletion make of it. -/
namespace Go.Proofs.YtmaemgihhipllaaGreatDoor.Sad
open Go.Proofs.YtmaemgihhipllaaGreatDoor
set_option linter.unusedVariables false
set_option linter.unusedSimpArgs false
open Go.RowKit RT
theorem RT.ne_of_lt {a b : UInt8} (h : a < b) : a ≠ b := fun e => by subst e; rw [UInt8.lt_iff_toNat_lt] at h; omega
theorem RT.not_lt_of_lt {a b : UInt8} (h : a < b) : ¬ b < a := fun h' => by rw [UInt8.lt_iff_toNat_lt] at h h'; omega
theorem RT.lookS_get {s : List UInt8} {u : RT} : ∀ {l : List RT} {n i : Nat}, WFS n l → l[i]? = some u → u.first = s.getD 0 0 → lookS l s = look u s
  | [], n, i, _, h, _ => by simp at h
  | t :: l, n, i, hw, h, hf => by
    rw [WFS] at hw
    cases i with
    | zero =>
      obtain rfl : t = u := by simpa using h
      rw [lookS]; exact if_pos hf
    | succ i =>
      have hl : l[i]? = some u := by simpa using h
      have := hw.2.2.1 u (List.mem_of_getElem? hl)
      rw [lookS]; exact (if_neg (fun e => RT.ne_of_lt this (Eq.trans e hf.symm))).trans (RT.lookS_get hw.2.2.2 hl hf)
theorem RT.putS_get {s : List UInt8} {u : RT} (x : VT) : ∀ {l : List RT} {n i : Nat}, WFS n l → l[i]? = some u → u.first = s.getD 0 0 → putS l s x = l.set i (RT.put u s x)
  | [], n, i, _, h, _ => by simp at h
  | t :: l, n, i, hw, h, hf => by
    rw [WFS] at hw
    cases i with
    | zero =>
      obtain rfl : t = u := by simpa using h
      rw [putS, if_pos hf]; rfl
    | succ i =>
      have hl : l[i]? = some u := by simpa using h
      have := hw.2.2.1 u (List.mem_of_getElem? hl)
      rw [putS, ← hf, if_neg (RT.ne_of_lt this), if_neg (RT.not_lt_of_lt this), RT.putS_get x hw.2.2.2 hl hf]; rfl
theorem RT.delS_get {s : List UInt8} {u : RT} : ∀ {l : List RT} {n i : Nat}, WFS n l → l[i]? = some u → u.first = s.getD 0 0 → delS l s = if u.kids.isEmpty then l.eraseIdx i else l.set i (RT.del u s)
  | [], n, i, _, h, _ => by simp at h
  | t :: l, n, i, hw, h, hf => by
    rw [WFS] at hw
    cases i with
    | zero =>
      obtain rfl : t = u := by simpa using h
      rw [delS, if_pos hf]; rfl
    | succ i =>
      have hl : l[i]? = some u := by simpa using h
      have := hw.2.2.1 u (List.mem_of_getElem? hl)
      rw [delS, ← hf, if_neg (RT.ne_of_lt this), RT.delS_get hw.2.2.2 hl hf]
      split <;> rfl
theorem RT.put_append (b s : List UInt8) (w : VT) (k : List RT) (x : VT) (hs : s ≠ []) : RT.put (mk b w k) (b ++ s) x = mk b w (putS k s x) := by
  rw [RT.put, if_neg (alike_append b s)]
  simp [hs]
theorem RT.join_two {b : List UInt8} {w : VT} {l : List RT} (h : 2 ≤ l.length) : join b w l = mk b w l := by
  unfold join
  split
  · simp at h
  · rfl
section
variable {w : World} {ro : Nat → Prop} {p n : Nat} {t : RT} {x : Nat} {own : List Nat} {s : List UInt8} {u : RT} {y : Nat} {o : List Nat} {s' : List UInt8} {ab : List Nat} {c d : Nat} {K : RT → RT}
theorem Way.plain (h : Way w ro p n t x own s u y o s' ab c d K) (hw : WF s.length t) : WF s'.length u ∧ RT.look t s = RT.look u s' ∧ (∀ v, RT.put t s v = K (RT.put u s' v)) ∧ (u.kids ≠ [] → RT.del t s = K (RT.del u s')) ∧ s'.length ≤ s.length ∧ ab.length + s'.length ≤ s.length + 1 ∧ (ab = [] ∨ u.begin ≠ []) := by
  induction h with
  | here h => exact ⟨hw, rfl, fun _ => rfl, fun _ => rfl, Nat.le_refl _, by simp, .inl rfl⟩
  | @down b v k y o s' ab c d K i z oi g u h hk hu hs hf ih =>
    obtain ⟨h1, h2, h3, h4, h5, h6, h7⟩ := ih
    obtain ⟨hi, hu'⟩ := List.getElem?_eq_some_iff.1 hu
    rw [WF] at h1
    have hk2 : 2 ≤ k.length ∧ WFS s'.length k := by
      rcases h1.2 with ⟨rfl, _⟩ | ⟨q1, _, _, q2⟩
      · simp at hi
      · rw [List.length_append, Nat.add_sub_cancel_left] at q2; exact ⟨q1, q2⟩
    have hm := hk2.2.mem u (List.mem_of_getElem? hu)
    have hs0 : 0 < s'.length := List.length_pos_iff.2 hs
    simp only [List.length_append, List.length_cons, List.length_nil] at h5 h6 ⊢
    refine ⟨hm.2, ?_, fun x => ?_, fun hne => ?_, by omega, ?_, .inr hm.1⟩
    · rw [h2, look_append, if_neg hs, RT.lookS_get hk2.2 hu hf]
    · rw [h3, RT.put_append _ _ _ _ _ hs, RT.putS_get x hk2.2 hu hf]
    · rw [h4 (fun e => by rw [show (mk b v k).kids = k from rfl] at e; rw [e] at hi; simp at hi), RT.del]
      rw [show (b ++ s').drop b.length = s' by simp, RT.delS_get hk2.2 hu hf, if_neg (by simpa using hne), RT.join_two (by simpa using hk2.1)]
    · rcases h7 with rfl | h7
      · simp; omega
      · have : 0 < b.length := List.length_pos_iff.2 h7
        omega
end
end Go.Proofs.YtmaemgihhipllaaGreatDoor.Sad
