/- stillroomlaw06: looks, asked. -/
import Derived.Test.YtncdckakcmoejaaRef4
namespace Go.Proofs.Ytncdckakcmoejaa
set_option linter.unusedVariables false
set_option linter.unusedSimpArgs false
open Go.RowKit
/-- The program's numbers and the document's. -/
structure Twin (w : World) (p : Nat) (F : Nat → Prop) (r : Nat) (G : Nat → Prop) (L : List Int) (W : Nat) : Prop where
  one : IntsF w p F L W
  two : RefF w r G L W
  apart : ∀ k, F k → ¬ G k
theorem Twin.chg {w : World} {p : Nat} {F : Nat → Prop} {r : Nat} {G : Nat → Prop} {L : List Int} {W : Nat} (h : Twin w p F r G L W) {S : Nat → Prop} {w' : World} (hc : Chg S w w') (h1 : ∀ k, F k → ¬ S k) (h2 : ∀ k, G k → ¬ S k) : Twin w' p F r G L W :=
  ⟨h.one.chg hc h1, h.two.chg hc h2, h.apart⟩
theorem fits_range {W : Nat} {x : Int} (h : fitsW W x) : -9223372036854775808 ≤ x ∧ x ≤ 9223372036854775807 := by
  rcases h with ⟨_, h1, h2⟩ | ⟨_, h1, h2⟩ | ⟨_, h1, h2⟩ <;> omega
set_option maxHeartbeats 400000 in
theorem looks_any {w : World} {p : Nat} {F : Nat → Prop} {r : Nat} {G : Nat → Prop} {L : List Int} {W : Nat} (h : Twin w p F r G L W) (hm : L.length ≤ 100000000) :
    Calls Try.prog 25 #[.pointer (some ⟨p, 0, none⟩), .pointer (some ⟨r, 0, none⟩)] w fun e w' => e = .returned (.bool true) ∧ Below w.heap.size w w' := by
  have H1 := Lib.hid (lenF h.one)
  have H2 := Lib.hid (refLen h.two)
  have H3 := Lib.hid (widthF h.one)
  have H4 := Lib.hid (refWidth h.two)
  have H5 := Lib.hid (bytesF h.one)
  have hW := h.one.width
  have H6 := Lib.hid (refBytes h.two (by omega) hm fun x hx => fits_range (h.one.fits x hx))
  generalize strOf (intsBytes L W) = st at *
  clear h
  go_enter Try.func25, Try.ntmps25
  go_wp2_with fail
  refine H1.out.mono ?_
  rintro e w' ⟨rfl, rfl⟩
  go_wp2_with fail
  refine H2.out.mono ?_
  rintro e w' ⟨rfl, rfl⟩
  go_wp2_with fail
  refine H3.out.mono ?_
  rintro e w' ⟨rfl, rfl⟩
  go_wp2_with fail
  refine H4.out.mono ?_
  rintro e w' ⟨rfl, rfl⟩
  go_wp2_with fail
  refine H5.out.mono ?_
  rintro e w' ⟨rfl, rfl⟩
  go_wp2_with fail
  refine H6.out.mono ?_
  rintro e w' ⟨rfl, hb⟩
  go_wp2_with fail
  go_ret
  exact ⟨rfl, hb⟩
set_option maxHeartbeats 400000 in
theorem looks_no {w : World} {a : Option Addr} (h : NoInts w a) :
    Calls Try.prog 25 #[.pointer a, .pointer none] w fun e w' => e = .returned (.bool true) ∧ w = w' := by
  have H1 := Lib.hid (len_no h)
  have H2 := Lib.hid (refLen0 w)
  have H3 := Lib.hid (width_no h)
  have H4 := Lib.hid (refWidth0 w)
  have H5 := Lib.hid (bytes_no h)
  have H6 := Lib.hid (refBytes0 w)
  generalize strOf [] = st at *
  clear h
  go_enter Try.func25, Try.ntmps25
  go_wp2_with fail
  refine H1.out.mono ?_
  rintro e w' ⟨rfl, rfl⟩
  go_wp2_with fail
  refine H2.out.mono ?_
  rintro e w' ⟨rfl, rfl⟩
  go_wp2_with fail
  refine H3.out.mono ?_
  rintro e w' ⟨rfl, rfl⟩
  go_wp2_with fail
  refine H4.out.mono ?_
  rintro e w' ⟨rfl, rfl⟩
  go_wp2_with fail
  refine H5.out.mono ?_
  rintro e w' ⟨rfl, rfl⟩
  go_wp2_with fail
  refine H6.out.mono ?_
  rintro e w' ⟨rfl, rfl⟩
  go_wp2_with fail
  go_ret
  exact ⟨rfl, rfl⟩
/-- What a step of both may leave. -/
def Asked (p r : Nat) (F G : Nat → Prop) (L : List Int) (w : World) (e : Ending) (w' : World) : Prop :=
  e = .returned (.bool true) ∧ ∃ F' G' L' W', Twin w' p F' r G' L' W' ∧ L'.length ≤ L.length + 1 ∧ (∀ k, F' k ∨ G' k → F k ∨ G k ∨ w.heap.size ≤ k) ∧ Chg (fun k => F k ∨ G k) w w'
set_option maxHeartbeats 3200000 in
set_option maxRecDepth 100000 in
theorem asked_any {w : World} {p : Nat} {F : Nat → Prop} {r : Nat} {G : Nat → Prop} {L : List Int} {W : Nat} (h : Twin w p F r G L W) (hm : L.length < 10000000) (kd n : Int) (hn : -9223372036854775808 ≤ n ∧ n ≤ 9223372036854775807) :
    Calls Try.prog 24 #[.pointer (some ⟨p, 0, none⟩), .pointer (some ⟨r, 0, none⟩), .agg #[.int .u8 kd, .int .i64 n]] w (Asked p r F G L w) := by
  obtain ⟨w1, hw1⟩ : ∃ w1, w1 = w.alloc (.cells #[.int .u8 kd, .int .i64 n] 50) := ⟨_, rfl⟩
  have hc1 : Chg (fun _ => False) w w1 := by rw [hw1]; exact Chg.alloc _ _ _
  have hq1 : w1.heap[w.heap.size]? = some (.cells #[.int .u8 kd, .int .i64 n] 50 (0, 0)) := by rw [hw1]; exact heap_new _ _
  have hT1 := h.chg hc1 (fun _ _ => id) (fun _ _ => id)
  have HT := Lib.hid h
  have HT1 := Lib.hid hT1
  have HW := Lib.hid hw1
  have HC := Lib.hid hc1
  have HQ := Lib.hid hq1
  have HN := Lib.hid hn
  have e0 := cell_in hq1 (i := 0) rfl
  have e1 := cell_in hq1 (i := 1) rfl
  obtain ⟨q, hq⟩ : ∃ q, q = w.heap.size := ⟨_, rfl⟩
  clear hw1 hc1 hq1 hT1 h hn
  have hcl : ∀ w', Chg (fun k => F k ∨ G k) w1 w' → w'.cell? ⟨w.heap.size, 1, none⟩ = some (.int .i64 n) := fun w' hc => by
    refine cell_in (hc.keep HQ.out ?_) (i := 1) rfl
    rintro (hk | hk)
    · have := HT.out.one.lt hk; omega
    · have := HT.out.two.lt hk; omega
  obtain ⟨X1, f, hX1, hf, hF⟩ := classOf (fun x => x.cell? ⟨w.heap.size, 1, none⟩ = some (.int .i64 n)) e1
  have HF := Lib.hid fun w' (h : Chg (fun k => F k ∨ G k) w1 w') => hF w' (hcl w' h)
  clear hF hcl
  by_cases k1 : kd = 1
  · subst k1
    have hwx : (if n ∈ L then L else ins L n) = ins L n ∧ (if n ∈ L then W else max W (wantsN n)) = max W (wantsN n) := by
      by_cases hx : n ∈ L
      · rw [if_pos hx, if_pos hx, ins_mem HT.out.one.sorted hx]
        exact ⟨rfl, (Nat.max_eq_left ((fits_wants _ HN.out W HT.out.one.width).1 (HT.out.one.fits _ hx))).symm⟩
      · rw [if_neg hx, if_neg hx]; exact ⟨rfl, rfl⟩
    have hln := ins_length n HT.out.one.sorted
    have HA := Lib.hid (addF (HT1.out.one.chg (Chg.drewN (fun _ => False) w1 1) fun _ _ => id) n HN.out (by omega))
    have HB := Lib.hid fun w' (h : RefF w' r G L W) => refAdd h n (by omega) (by have := HT.out.one.width; omega)
    simp only [hwx.1, hwx.2] at HB
    obtain ⟨bo, hbo⟩ : ∃ bo, bo = decide (n ∉ L) := ⟨_, rfl⟩
    rw [← hbo] at HA HB
    have hbb : (bo == bo) = true := by simp
    have HLn := Lib.hid (show (ins L n).length ≤ L.length + 1 by split at hln <;> omega)
    clear hbo hwx hln
    go_enter Try.func24, Try.ntmps24
    go_wp2_with fail
    rw [← HW.out]
    go_wp2_with fail
    refine wp_region_text ⟨[3, 7], [8, 9], 7⟩ (fun w' => ∃ x : X1, w' = f x) (by kernel_rfl) (by kernel_rfl) (HF.out _ (Chg.drewN _ w1 1)) ?_
    refine wpC_seg false (HF.out _ (Chg.drewN _ w1 1)) 3 0 _ _ (by rfl) (by rfl) ?_
    simp only [List.take_succ_cons, List.take_zero, List.drop_succ_cons, List.drop_zero, Bool.false_eq_true, if_false, Nat.zero_add, Nat.reduceAdd]
    repeat (go_big_quiet_step (fail))
    refine wpQuiet_nil ?_
    refine wpC_loud (by rfl) (by rfl) fun K hK => ?_
    go_wp2_with fail
    refine HA.out.mono ?_
    rintro e w2 ⟨rfl, F', p2, k2, c2⟩
    have c12 := (Chg.drewN (fun k => F k ∨ G k) w1 1).trans c2 fun k h _ => Or.inl h
    have R2 := HT1.out.two.chg (Chg.drewN (fun _ => False) w1 1) (fun _ _ => id) |>.chg c2 fun k hg hf => HT.out.apart k hf hg
    have HB2 := Lib.hid (HB.out _ R2)
    refine hK _ _ (fun _ => HF.out _ c12) ?_
    clear hK R2 HB
    refine wpC_seg false (HF.out _ c12) 3 4 _ _ (by rfl) (by rfl) ?_
    simp only [List.take_succ_cons, List.take_zero, List.drop_succ_cons, List.drop_zero, Bool.false_eq_true, if_false, Nat.zero_add, Nat.reduceAdd]
    repeat (go_big_quiet_step (fail))
    refine wpQuiet_nil ?_
    refine wpC_loud (by rfl) (by rfl) fun K hK => ?_
    go_wp2_with fail
    refine HB2.out.mono ?_
    rintro e w3 ⟨rfl, G', p3, k3, c3⟩
    refine hK _ _ (fun h => absurd h (by decide)) ?_
    clear hK
    refine wpC_segD 2 8 _ _ (by rfl) (by rfl) ?_
    simp only [List.take_succ_cons, List.take_zero, List.drop_succ_cons, List.drop_zero, if_true, Nat.zero_add, Nat.reduceAdd]
    repeat (go_big_quiet_step (fail))
    refine wpQuiet_nil ?_
    refine wpC_nil ?_
    have HFin : Hid (Twin w3 p F' r G' (ins L n) (max W (wantsN n)) ∧ (∀ k, F' k ∨ G' k → F k ∨ G k ∨ w.heap.size ≤ k) ∧ Chg (fun k => F k ∨ G k) w w3) := Lib.hid (by
      have hsz := HC.out.size
      have hsz2 := c2.size
      have hd1 : (w1.drewN 1).heap.size = w1.heap.size := rfl
      refine ⟨⟨p2.chg c3 fun k hk hg => ?_, p3, fun k hk hg => ?_⟩, ?_, ?_⟩
      · rcases k2 k hk with h | h
        · exact HT.out.apart k h hg
        · have := HT1.out.two.lt hg
          omega
      · rcases k3 k hg with h | h
        · rcases k2 k hk with h2 | h2
          · exact HT.out.apart k h2 h
          · have := HT1.out.two.lt h
            omega
        · have := p2.lt hk
          omega
      · rintro k (hk | hk)
        · rcases k2 k hk with h | h
          · exact .inl h
          · exact .inr (.inr (by omega))
        · rcases k3 k hk with h | h
          · exact .inr (.inl h)
          · exact .inr (.inr (by omega))
      · exact ((HC.out.mono (S' := fun k => F k ∨ G k) fun _ h _ => h.elim).trans c12 fun k h _ => h).trans c3 fun k h _ => Or.inr h)
    clear p2 k2 c2 c12 p3 k3 c3 HA HB2 HF hf hX1
    go_wp2_with fail
    go_ret
    exact ⟨rfl, F', G', _, _, HFin.out.1, HLn.out, HFin.out.2⟩
  have hk1 : (kd == 1) = false := by simpa using k1
  by_cases k2 : kd = 2
  · subst k2
    have hln := List.length_filter_le (fun x => decide (x ≠ n)) L
    have HA := Lib.hid (removeF (HT1.out.one.chg (Chg.drewN (fun _ => False) w1 1) fun _ _ => id) n)
    have HB := Lib.hid fun w' (h : RefF w' r G L W) => refRemove h n (by omega)
    obtain ⟨bo, hbo⟩ : ∃ bo, bo = decide (n ∈ L) := ⟨_, rfl⟩
    rw [← hbo] at HA HB
    have hbb : (bo == bo) = true := by simp
    have HLn := Lib.hid (show (del L n).length ≤ L.length + 1 from Nat.le_trans hln (by omega))
    clear hbo hln
    go_enter Try.func24, Try.ntmps24
    go_wp2_with fail
    rw [← HW.out]
    go_wp2_with fail
    refine wp_region_text ⟨[3, 7], [8, 9], 7⟩ (fun w' => ∃ x : X1, w' = f x) (by kernel_rfl) (by kernel_rfl) (HF.out _ (Chg.drewN _ w1 1)) ?_
    refine wpC_seg false (HF.out _ (Chg.drewN _ w1 1)) 3 0 _ _ (by rfl) (by rfl) ?_
    simp only [List.take_succ_cons, List.take_zero, List.drop_succ_cons, List.drop_zero, Bool.false_eq_true, if_false, Nat.zero_add, Nat.reduceAdd]
    repeat (go_big_quiet_step (fail))
    refine wpQuiet_nil ?_
    refine wpC_loud (by rfl) (by rfl) fun K hK => ?_
    go_wp2_with fail
    refine HA.out.mono ?_
    rintro e w2 ⟨rfl, p2, c2⟩
    have c12 := (Chg.drewN (fun k => F k ∨ G k) w1 1).trans c2 fun k h _ => Or.inl h
    have R2 := HT1.out.two.chg (Chg.drewN (fun _ => False) w1 1) (fun _ _ => id) |>.chg c2 fun k hg hf => HT.out.apart k hf hg
    have HB2 := Lib.hid (HB.out _ R2)
    refine hK _ _ (fun _ => HF.out _ c12) ?_
    clear hK R2 HB
    refine wpC_seg false (HF.out _ c12) 3 4 _ _ (by rfl) (by rfl) ?_
    simp only [List.take_succ_cons, List.take_zero, List.drop_succ_cons, List.drop_zero, Bool.false_eq_true, if_false, Nat.zero_add, Nat.reduceAdd]
    repeat (go_big_quiet_step (fail))
    refine wpQuiet_nil ?_
    refine wpC_loud (by rfl) (by rfl) fun K hK => ?_
    go_wp2_with fail
    refine HB2.out.mono ?_
    rintro e w3 ⟨rfl, G', p3, k3, c3⟩
    refine hK _ _ (fun h => absurd h (by decide)) ?_
    clear hK
    refine wpC_segD 2 8 _ _ (by rfl) (by rfl) ?_
    simp only [List.take_succ_cons, List.take_zero, List.drop_succ_cons, List.drop_zero, if_true, Nat.zero_add, Nat.reduceAdd]
    repeat (go_big_quiet_step (fail))
    refine wpQuiet_nil ?_
    refine wpC_nil ?_
    have HFin : Hid (Twin w3 p F r G' (del L n) W ∧ (∀ k, F k ∨ G' k → F k ∨ G k ∨ w.heap.size ≤ k) ∧ Chg (fun k => F k ∨ G k) w w3) := Lib.hid (by
      have hsz := HC.out.size
      have hsz2 := c2.size
      have hd1 : (w1.drewN 1).heap.size = w1.heap.size := rfl
      refine ⟨⟨p2.chg c3 fun k hk hg => HT.out.apart k hk hg, p3, fun k hk hg => ?_⟩, ?_, ?_⟩
      · rcases k3 k hg with h | h
        · exact HT.out.apart k hk h
        · have := p2.lt hk
          omega
      · rintro k (hk | hk)
        · exact .inl hk
        · rcases k3 k hk with h | h
          · exact .inr (.inl h)
          · exact .inr (.inr (by omega))
      · exact ((HC.out.mono (S' := fun k => F k ∨ G k) fun _ h _ => h.elim).trans c12 fun k h _ => h).trans c3 fun k h _ => Or.inr h)
    clear p2 c2 c12 p3 k3 c3 HA HB2 HF hf hX1
    go_wp2_with fail
    go_ret
    exact ⟨rfl, F, G', _, _, HFin.out.1, HLn.out, HFin.out.2⟩
  have hk2 : (kd == 2) = false := by simpa using k2
  by_cases k4 : kd = 4
  · subst k4
    have HA := Lib.hid (AtF HT1.out.one n)
    have HB := Lib.hid fun m => refAt (HT1.out.two.chg (Chg.drewN (fun _ => False) w1 m) fun _ _ => id) n
    obtain ⟨v1, v2, hv⟩ : ∃ (v1 : Int) (v2 : Bool), atVal L n = .tuple #[.int .i64 v1, .bool v2] := by
      unfold atVal; split <;> exact ⟨_, _, rfl⟩
    rw [hv] at HA
    simp only [hv] at HB
    have h1 : (v1 == v1) = true := by simp
    have h2 : (v2 == v2) = true := by simp
    clear hv HF hf
    go_enter Try.func24, Try.ntmps24
    go_wp2_with fail
    rw [← HW.out]
    go_wp2_with fail
    refine HA.out.mono ?_
    rintro e w2 ⟨rfl, m, rfl⟩
    go_wp2_with fail
    refine (HB.out m).mono ?_
    rintro e w3 ⟨rfl, rfl⟩
    go_wp2_with fail
    go_ret
    exact ⟨rfl, F, G, L, W, HT1.out.chg (Chg.drewN (fun _ => False) w1 m) (fun _ _ => id) (fun _ _ => id), by omega, fun k hk => hk.elim .inl fun h => .inr (.inl h), (HC.out.trans (Chg.drewN (fun _ => False) w1 m) fun _ h _ => h).mono fun _ h _ => h.elim⟩
  · have hk4 : (kd == 4) = false := by simpa using k4
    have HA := Lib.hid (hasF (HT1.out.one.chg (Chg.drewN (fun _ => False) w1 1) fun _ _ => id) n)
    have HB := Lib.hid fun w' (h : RefF w' r G L W) => refHas h n (by omega)
    obtain ⟨bo, hbo⟩ : ∃ bo, bo = decide (n ∈ L) := ⟨_, rfl⟩
    rw [← hbo] at HA HB
    have hbb : (bo == bo) = true := by simp
    clear hbo k1 k2 k4
    go_enter Try.func24, Try.ntmps24
    go_wp2_with fail
    rw [← HW.out]
    go_wp2_with fail
    refine wp_region_text ⟨[3, 7], [8, 9], 7⟩ (fun w' => ∃ x : X1, w' = f x) (by kernel_rfl) (by kernel_rfl) (HF.out _ (Chg.drewN _ w1 1)) ?_
    refine wpC_seg false (HF.out _ (Chg.drewN _ w1 1)) 3 0 _ _ (by rfl) (by rfl) ?_
    simp only [List.take_succ_cons, List.take_zero, List.drop_succ_cons, List.drop_zero, Bool.false_eq_true, if_false, Nat.zero_add, Nat.reduceAdd]
    repeat (go_big_quiet_step (fail))
    refine wpQuiet_nil ?_
    refine wpC_loud (by rfl) (by rfl) fun K hK => ?_
    go_wp2_with fail
    refine HA.out.mono ?_
    rintro e w2 ⟨rfl, c2⟩
    have c13 := (Chg.drewN (fun _ => False) w1 1).trans c2 fun k h _ => h
    have c12 := c13.mono (S' := fun k => F k ∨ G k) fun _ h _ => h.elim
    have T2 := Lib.hid (HT1.out.chg c13 (fun _ _ => id) fun _ _ => id)
    have HB2 := Lib.hid (HB.out _ T2.out.two)
    refine hK _ _ (fun _ => HF.out _ c12) ?_
    clear hK HB
    refine wpC_seg false (HF.out _ c12) 3 4 _ _ (by rfl) (by rfl) ?_
    simp only [List.take_succ_cons, List.take_zero, List.drop_succ_cons, List.drop_zero, Bool.false_eq_true, if_false, Nat.zero_add, Nat.reduceAdd]
    repeat (go_big_quiet_step (fail))
    refine wpQuiet_nil ?_
    refine wpC_loud (by rfl) (by rfl) fun K hK => ?_
    go_wp2_with fail
    refine HB2.out.mono ?_
    rintro e w3 ⟨rfl, rfl⟩
    refine hK _ _ (fun h => absurd h (by decide)) ?_
    clear hK
    refine wpC_segD 2 8 _ _ (by rfl) (by rfl) ?_
    simp only [List.take_succ_cons, List.take_zero, List.drop_succ_cons, List.drop_zero, if_true, Nat.zero_add, Nat.reduceAdd]
    repeat (go_big_quiet_step (fail))
    refine wpQuiet_nil ?_
    refine wpC_nil ?_
    have HFin := Lib.hid (HC.out.trans c13 fun _ h _ => h)
    clear c2 c13 c12 HA HB2 HF hf hX1
    go_wp2_with fail
    go_ret
    exact ⟨rfl, F, G, L, W, T2.out, by omega, fun k hk => hk.elim .inl fun h => .inr (.inl h), HFin.out.mono fun _ h _ => h.elim⟩
end Go.Proofs.Ytncdckakcmoejaa
