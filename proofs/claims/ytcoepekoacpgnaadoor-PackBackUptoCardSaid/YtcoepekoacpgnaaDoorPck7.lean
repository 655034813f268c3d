/- pack.read, of long texts. -/
import Derived.Test.YtcoepekoacpgnaaDoorPck6
namespace Go.Proofs.YtcoepekoacpgnaaDoor
set_option linter.unusedVariables false
set_option linter.unusedSimpArgs false
open Go.RowKit
set_option maxHeartbeats 1600000 in
set_option maxRecDepth 100000 in
theorem read_long (b o m cap x0 x1 x2 N : Nat) (xs : List UInt8) {w : World} (hN : N = x0 + 256 * x1 + 65536 * x2) (hxs : xs.length = N) (h256 : x0 < 256 ∧ x1 < 256 ∧ x2 < 256) (hm3 : 3 ≤ m) (hm : m + 1 ≤ cap) (hcap1 : ¬ cap = 1) (hcap2 : ¬ cap - 1 = 3) (hmx : m ≤ 4000000000) (h0 : w.cell? ⟨b, o, none⟩ = some (.int .u8 128))
    (g0 : w.cell? ⟨b, o + 1, none⟩ = some (.int .u8 x0)) (g1 : w.cell? ⟨b, o + 1 + 1, none⟩ = some (.int .u8 x1)) (g2 : w.cell? ⟨b, o + 1 + 2, none⟩ = some (.int .u8 x2))
    (hcell : N ≤ m - 3 → ∀ i (h : i < xs.length), w.cell? ⟨b, o + 1 + 3 + i, none⟩ = some (.int .u8 xs[i].toNat)) :
    Calls Tryd.prog 43 #[.slice (some ⟨b, o, none⟩) (m + 1) cap] w fun e w' => e = .returned (if N ≤ m - 3 then .tuple #[.string (strOf xs), .int .i64 ((4 + N : Nat) : Int), .bool true] else .tuple #[.string ByteArray.empty, .int .i64 0, .bool false]) ∧ Below w.heap.size w w' := by
  have hand15 : bits .and .u8 128 15 = 0 := by decide
  have hd3 : decide ((3 : Int) ≤ m) = true := by simp; omega
  obtain ⟨y, hy⟩ : ∃ y, y = x0 + 256 * x1 := ⟨_, rfl⟩
  have hor1 : bits .or .i64 (x0 : Int) ((x1 : Int) * 256) = (y : Int) := by
    have e := i64_or_nat x0 (x1 * 256) (by omega) (by omega)
    rw [Int.natCast_mul] at e
    rw [show (256 : Int) = ((256 : Nat) : Int) from rfl, e]
    have h := Nat.shiftLeft_add_eq_or_of_lt (i := 8) (b := x0) (by simpa using h256.1) x1
    rw [Nat.shiftLeft_eq] at h
    simp only [Nat.reducePow] at h
    rw [Nat.or_comm, ← h]; congr 1; omega
  have hor2 : bits .or .i64 (y : Int) ((x2 : Int) * 65536) = (N : Int) := by
    have e := i64_or_nat y (x2 * 65536) (by omega) (by omega)
    rw [Int.natCast_mul] at e
    rw [show (65536 : Int) = ((65536 : Nat) : Int) from rfl, e]
    have h := Nat.shiftLeft_add_eq_or_of_lt (i := 16) (b := y) (by omega) x2
    rw [Nat.shiftLeft_eq] at h
    simp only [Nat.reducePow] at h
    rw [Nat.or_comm, ← h]; congr 1; omega
  obtain ⟨X1, f, hX1, hf, hF⟩ := classOf (fun x => x.cell? ⟨b, o + 1, none⟩ = some (.int .u8 x0) ∧ x.cell? ⟨b, o + 1 + 1, none⟩ = some (.int .u8 x1) ∧ x.cell? ⟨b, o + 1 + 2, none⟩ = some (.int .u8 x2)) ⟨g0, g1, g2⟩
  have hf1 := fun x => (hf x).1
  have hf2 := fun x => (hf x).2.1
  have hf3 := fun x => (hf x).2.2
  have HF := Lib.hid (hF w.drew ⟨g0, g1, g2⟩)
  have hNb : N < 16777216 := by omega
  obtain ⟨k0, k1, k2⟩ := h256
  have hyb : y < 65536 := by omega
  have HR := Lib.hid (show Below w.heap.size w w.drew from belowN (Below.refl _ _) 1)
  by_cases hcm : N ≤ m - 3
  · rw [if_pos hcm]
    have hd4 : decide ((m : Int) - 3 < (N : Int)) = false := by simp; omega
    have hcv : (convert 67 9 (.slice (some ⟨b, o + 1 + 3, none⟩) N (cap - 1 - 3))).run Tryd.prog w.drew = .ok (.string (strOf xs)) w.drew := cells_conv (w := w.drew) hxs (hcell hcm)
    obtain ⟨S, hS⟩ : ∃ S, strOf xs = S := ⟨_, rfl⟩
    rw [hS] at hcv ⊢
    clear hF hf hcell hN hy
    go_enter Tryd.func43, Tryd.ntmps43
    go_wp2_with fail
    refine wp_region_text ⟨[], [], 17⟩ (fun w' => ∃ x : X1, w' = f x) (by kernel_rfl) (by kernel_rfl) HF.out ?_
    refine wpC_seg false (HF.out) 17 0 _ _ (by rfl) (by rfl) ?_
    simp only [List.take_succ_cons, List.take_zero, List.drop_succ_cons, List.drop_zero, Bool.false_eq_true, if_false, Nat.zero_add, Nat.reduceAdd]
    repeat (go_big_quiet_step (fail))
    refine wpQuiet_nil ?_
    refine wpC_nil ?_
    clear hf1 hf2 hf3 hX1 HF
    go_wp2_with fail
    go_ret3
    exact ⟨rfl, HR.out⟩
  · rw [if_neg hcm]
    have hd4 : decide ((m : Int) - 3 < (N : Int)) = true := by simp; omega
    clear hF hf hcell hN hy
    go_enter Tryd.func43, Tryd.ntmps43
    go_wp2_with fail
    refine wp_region_text ⟨[], [], 17⟩ (fun w' => ∃ x : X1, w' = f x) (by kernel_rfl) (by kernel_rfl) HF.out ?_
    refine wpC_seg false (HF.out) 17 0 _ _ (by rfl) (by rfl) ?_
    simp only [List.take_succ_cons, List.take_zero, List.drop_succ_cons, List.drop_zero, Bool.false_eq_true, if_false, Nat.zero_add, Nat.reduceAdd]
    repeat (go_big_quiet_step (fail))
    refine wpQuiet_nil ?_
    refine wpC_nil ?_
    clear hf1 hf2 hf3 hX1 HF
    go_wp2_with fail
    go_ret3
    exact ⟨rfl, HR.out⟩
end Go.Proofs.YtcoepekoacpgnaaDoor
