/- stillroomlaw06: asked, of a set that is not there. -/
import Derived.Test.YtncdckakcmoejaaRef5
namespace Go.Proofs.Ytncdckakcmoejaa
set_option linter.unusedVariables false
set_option linter.unusedSimpArgs false
open Go.RowKit
theorem NoInts.chg {w w' : World} {a : Option Addr} (h : NoInts w a) (hc : Chg (fun _ => False) w w') : NoInts w' a := by
  rcases h with rfl | ⟨z, rfl, hz⟩
  · exact .inl rfl
  · exact .inr ⟨z, rfl, hc.keep hz id⟩
set_option maxHeartbeats 1600000 in
set_option maxRecDepth 100000 in
theorem asked_no {w : World} {a : Option Addr} (h : NoInts w a) (kd n : Int) :
    Calls Try.prog 24 #[.pointer a, .pointer none, .agg #[.int .u8 kd, .int .i64 n]] w fun e w' => e = .returned (.bool true) ∧ Chg (fun _ => False) w w' := by
  obtain ⟨w1, hw1⟩ : ∃ w1, w1 = w.alloc (.cells #[.int .u8 kd, .int .i64 n] 50) := ⟨_, rfl⟩
  have hc1 : Chg (fun _ => False) w w1 := by rw [hw1]; exact Chg.alloc _ _ _
  have hq1 : w1.heap[w.heap.size]? = some (.cells #[.int .u8 kd, .int .i64 n] 50 (0, 0)) := by rw [hw1]; exact heap_new _ _
  have HT := Lib.hid fun m => (h.chg hc1).chg (Chg.drewN _ w1 m)
  have HW := Lib.hid hw1
  have HC := Lib.hid hc1
  have e0 := cell_in hq1 (i := 0) rfl
  have e1 := cell_in hq1 (i := 1) rfl
  have hcl : ∀ w', Chg (fun _ => False) w1 w' → w'.cell? ⟨w.heap.size, 1, none⟩ = some (.int .i64 n) := fun w' hc => cell_in (hc.keep hq1 id) (i := 1) rfl
  obtain ⟨X1, f, hX1, hf, hF⟩ := classOf (fun x => x.cell? ⟨w.heap.size, 1, none⟩ = some (.int .i64 n)) e1
  have HF := Lib.hid fun w' (h : Chg (fun _ => False) w1 w') => hF w' (hcl w' h)
  clear hF hcl hw1 hc1 hq1 h
  by_cases k1 : kd = 1
  · subst k1
    go_enter Try.func24, Try.ntmps24
    go_wp2_with fail
    rw [← HW.out]
    go_wp2_with fail
    refine wp_region_text ⟨[3, 7], [8, 9], 7⟩ (fun w' => ∃ x : X1, w' = f x) (by kernel_rfl) (by kernel_rfl) (HF.out _ (Chg.drewN _ w1 1)) ?_
    refine wpC_seg false (HF.out _ (Chg.drewN _ w1 1)) 3 0 _ _ (by rfl) (by rfl) ?_
    simp only [List.take_succ_cons, List.take_zero, List.drop_succ_cons, List.drop_zero, Bool.false_eq_true, if_false, Nat.zero_add, Nat.reduceAdd]
    repeat (go_big_quiet_step (fail))
    refine wpQuiet_nil ?_
    refine wpC_loud (by rfl) (by rfl) fun K hK => ?_
    go_wp2_with fail
    refine (add_no n (HT.out 1)).mono ?_
    rintro e w' ⟨rfl, rfl⟩
    refine hK _ _ (fun _ => HF.out _ (Chg.drewN _ w1 1)) ?_
    clear hK
    refine wpC_seg false (HF.out _ (Chg.drewN _ w1 1)) 3 4 _ _ (by rfl) (by rfl) ?_
    simp only [List.take_succ_cons, List.take_zero, List.drop_succ_cons, List.drop_zero, Bool.false_eq_true, if_false, Nat.zero_add, Nat.reduceAdd]
    repeat (go_big_quiet_step (fail))
    refine wpQuiet_nil ?_
    refine wpC_loud (by rfl) (by rfl) fun K hK => ?_
    go_wp2_with fail
    refine (refAdd0 _ n).mono ?_
    rintro e w' ⟨rfl, rfl⟩
    refine hK _ _ (fun h => absurd h (by decide)) ?_
    clear hK
    refine wpC_segD 2 8 _ _ (by rfl) (by rfl) ?_
    simp only [List.take_succ_cons, List.take_zero, List.drop_succ_cons, List.drop_zero, if_true, Nat.zero_add, Nat.reduceAdd]
    repeat (go_big_quiet_step (fail))
    refine wpQuiet_nil ?_
    refine wpC_nil ?_
    clear HF hf hX1
    go_wp2_with fail
    go_ret
    exact ⟨rfl, HC.out.trans (Chg.drewN (fun _ => False) w1 1) fun _ h _ => h⟩
  have hk1 : (kd == 1) = false := by simpa using k1
  by_cases k2 : kd = 2
  · subst k2
    go_enter Try.func24, Try.ntmps24
    go_wp2_with fail
    rw [← HW.out]
    go_wp2_with fail
    refine wp_region_text ⟨[3, 7], [8, 9], 7⟩ (fun w' => ∃ x : X1, w' = f x) (by kernel_rfl) (by kernel_rfl) (HF.out _ (Chg.drewN _ w1 1)) ?_
    refine wpC_seg false (HF.out _ (Chg.drewN _ w1 1)) 3 0 _ _ (by rfl) (by rfl) ?_
    simp only [List.take_succ_cons, List.take_zero, List.drop_succ_cons, List.drop_zero, Bool.false_eq_true, if_false, Nat.zero_add, Nat.reduceAdd]
    repeat (go_big_quiet_step (fail))
    refine wpQuiet_nil ?_
    refine wpC_loud (by rfl) (by rfl) fun K hK => ?_
    go_wp2_with fail
    refine (remove_no n (HT.out 1)).mono ?_
    rintro e w' ⟨rfl, rfl⟩
    refine hK _ _ (fun _ => HF.out _ (Chg.drewN _ w1 1)) ?_
    clear hK
    refine wpC_seg false (HF.out _ (Chg.drewN _ w1 1)) 3 4 _ _ (by rfl) (by rfl) ?_
    simp only [List.take_succ_cons, List.take_zero, List.drop_succ_cons, List.drop_zero, Bool.false_eq_true, if_false, Nat.zero_add, Nat.reduceAdd]
    repeat (go_big_quiet_step (fail))
    refine wpQuiet_nil ?_
    refine wpC_loud (by rfl) (by rfl) fun K hK => ?_
    go_wp2_with fail
    refine (refRemove0 _ n).mono ?_
    rintro e w' ⟨rfl, rfl⟩
    refine hK _ _ (fun h => absurd h (by decide)) ?_
    clear hK
    refine wpC_segD 2 8 _ _ (by rfl) (by rfl) ?_
    simp only [List.take_succ_cons, List.take_zero, List.drop_succ_cons, List.drop_zero, if_true, Nat.zero_add, Nat.reduceAdd]
    repeat (go_big_quiet_step (fail))
    refine wpQuiet_nil ?_
    refine wpC_nil ?_
    clear HF hf hX1
    go_wp2_with fail
    go_ret
    exact ⟨rfl, HC.out.trans (Chg.drewN (fun _ => False) w1 1) fun _ h _ => h⟩
  have hk2 : (kd == 2) = false := by simpa using k2
  by_cases k4 : kd = 4
  · subst k4
    clear HF hf
    go_enter Try.func24, Try.ntmps24
    go_wp2_with fail
    rw [← HW.out]
    go_wp2_with fail
    refine (At_no n (HT.out 0)).mono ?_
    rintro e w2 ⟨rfl, rfl⟩
    go_wp2_with fail
    refine (refAt0 _ n).mono ?_
    rintro e w3 ⟨rfl, rfl⟩
    go_wp2_with fail
    go_ret
    exact ⟨rfl, HC.out⟩
  · have hk4 : (kd == 4) = false := by simpa using k4
    clear k1 k2 k4
    go_enter Try.func24, Try.ntmps24
    go_wp2_with fail
    rw [← HW.out]
    go_wp2_with fail
    refine wp_region_text ⟨[3, 7], [8, 9], 7⟩ (fun w' => ∃ x : X1, w' = f x) (by kernel_rfl) (by kernel_rfl) (HF.out _ (Chg.drewN _ w1 1)) ?_
    refine wpC_seg false (HF.out _ (Chg.drewN _ w1 1)) 3 0 _ _ (by rfl) (by rfl) ?_
    simp only [List.take_succ_cons, List.take_zero, List.drop_succ_cons, List.drop_zero, Bool.false_eq_true, if_false, Nat.zero_add, Nat.reduceAdd]
    repeat (go_big_quiet_step (fail))
    refine wpQuiet_nil ?_
    refine wpC_loud (by rfl) (by rfl) fun K hK => ?_
    go_wp2_with fail
    refine (has_no n (HT.out 1)).mono ?_
    rintro e w' ⟨rfl, rfl⟩
    refine hK _ _ (fun _ => HF.out _ (Chg.drewN _ w1 1)) ?_
    clear hK
    refine wpC_seg false (HF.out _ (Chg.drewN _ w1 1)) 3 4 _ _ (by rfl) (by rfl) ?_
    simp only [List.take_succ_cons, List.take_zero, List.drop_succ_cons, List.drop_zero, Bool.false_eq_true, if_false, Nat.zero_add, Nat.reduceAdd]
    repeat (go_big_quiet_step (fail))
    refine wpQuiet_nil ?_
    refine wpC_loud (by rfl) (by rfl) fun K hK => ?_
    go_wp2_with fail
    refine (refHas0 _ n).mono ?_
    rintro e w' ⟨rfl, rfl⟩
    refine hK _ _ (fun h => absurd h (by decide)) ?_
    clear hK
    refine wpC_segD 2 8 _ _ (by rfl) (by rfl) ?_
    simp only [List.take_succ_cons, List.take_zero, List.drop_succ_cons, List.drop_zero, if_true, Nat.zero_add, Nat.reduceAdd]
    repeat (go_big_quiet_step (fail))
    refine wpQuiet_nil ?_
    refine wpC_nil ?_
    clear HF hf hX1
    go_wp2_with fail
    go_ret
    exact ⟨rfl, HC.out.trans (Chg.drewN (fun _ => False) w1 1) fun _ h _ => h⟩
end Go.Proofs.Ytncdckakcmoejaa
