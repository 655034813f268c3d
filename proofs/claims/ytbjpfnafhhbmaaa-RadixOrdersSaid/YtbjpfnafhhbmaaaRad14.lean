/- radix: seek's test. -/
import Derived.Test.YtbjpfnafhhbmaaaRad13
namespace Go.Proofs.Ytbjpfnafhhbmaaa.Rad
open Go.Proofs.Ytbjpfnafhhbmaaa
set_option linter.unusedVariables false
set_option linter.unusedSimpArgs false
open Go.RowKit
set_option maxHeartbeats 800000 in
set_option maxRecDepth 100000 in
theorem radSeek1 {w : World} {bx bc x g o n cap i y b p m cm : Nat} {c f : Int} (h1 : w.cell? ⟨bx, 0, none⟩ = some (ptrV x)) (h2 : w.cell? ⟨bc, 0, none⟩ = some (.int .u8 c))
    (h3 : w.cell? ⟨x, 1, none⟩ = some (.slice (some ⟨g, o, none⟩) n cap)) (hi : i < n) (hn : n ≤ 1000000) (h4 : w.cell? ⟨g, o + i, none⟩ = some (ptrV y))
    (h5 : w.cell? ⟨y, 0, none⟩ = some (.slice (some ⟨b, p, none⟩) m cm)) (hm : 0 < m) (h6 : w.cell? ⟨b, p, none⟩ = some (.int .u8 f)) :
    Calls Try.prog 23 #[.int .i64 i, .pointer (some ⟨bx, 0, none⟩), .pointer (some ⟨bc, 0, none⟩)] w fun e w' => e = .returned (.bool (decide (c ≤ f))) ∧ ∃ k, w' = w.drewN k := by
  unfold ptrV at *
  obtain ⟨X1, fx, hX1, hf, hF⟩ := classOf (fun q : World => q.cell? ⟨bx, 0, none⟩ = some (.pointer (some ⟨x, 0, none⟩)) ∧ q.cell? ⟨bc, 0, none⟩ = some (.int .u8 c) ∧ q.cell? ⟨x, 1, none⟩ = some (.slice (some ⟨g, o, none⟩) n cap) ∧
    q.cell? ⟨g, o + i, none⟩ = some (.pointer (some ⟨y, 0, none⟩)) ∧ q.cell? ⟨y, 0, none⟩ = some (.slice (some ⟨b, p, none⟩) m cm) ∧ q.cell? ⟨b, p, none⟩ = some (.int .u8 f)) ⟨h1, h2, h3, h4, h5, h6⟩
  have f1 := fun q => (hf q).1
  have f2 := fun q => (hf q).2.1
  have f3 := fun q => (hf q).2.2.1
  have f4 := fun q => (hf q).2.2.2.1
  have f5 := fun q => (hf q).2.2.2.2.1
  have f6 := fun q => (hf q).2.2.2.2.2
  have HF := Lib.hid (hF w.drew ⟨h1, h2, h3, h4, h5, h6⟩)
  clear hF hf h1 h2 h3 h4 h5 h6
  go_enter Try.func23, Try.ntmps23
  go_wp2_with fail
  refine wp_region_text ⟨[], [], 15⟩ (fun w' => ∃ x : X1, w' = fx x) (by kernel_rfl) (by kernel_rfl) HF.out ?_
  refine wpC_seg false (HF.out) 15 0 _ _ (by rfl) (by rfl) ?_
  simp only [List.take_succ_cons, List.take_zero, List.drop_succ_cons, List.drop_zero, Bool.false_eq_true, if_false, Nat.zero_add, Nat.reduceAdd]
  repeat (go_big_quiet_step (fail))
  refine wpQuiet_nil ?_
  refine wpC_nil ?_
  go_wp2_with fail
  go_ret
  exact ⟨rfl, 1, rfl⟩
end Go.Proofs.Ytbjpfnafhhbmaaa.Rad
