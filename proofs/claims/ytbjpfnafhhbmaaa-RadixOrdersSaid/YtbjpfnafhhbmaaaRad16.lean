/- radix: seek. -/
import Derived.Test.YtbjpfnafhhbmaaaRad15
namespace Go.Proofs.Ytbjpfnafhhbmaaa.Rad
open Go.Proofs.Ytbjpfnafhhbmaaa
set_option linter.unusedVariables false
set_option linter.unusedSimpArgs false
open Go.RowKit
/-- Where a byte stands among rising ones. -/
def PlaceB (fs : List UInt8) (c : UInt8) (r : Nat) : Prop := r ≤ fs.length ∧ (∀ i, i < r → fs.getD i 0 < c) ∧ (∀ i, r ≤ i → i < fs.length → c ≤ fs.getD i 0)
set_option maxHeartbeats 1600000 in
set_option maxRecDepth 100000 in
theorem radSeek {w : World} {ro : Nat → Prop} {b : List UInt8} {v : VT} {k : List RT} {x : Nat} {own : List Nat} (h : NodeAt w ro (.mk b v k) x own) (hb : ∀ u ∈ k, u.begin ≠ []) (hr : (k.map RT.first).Pairwise (· < ·)) (hn : k.length ≤ 1000) (c : UInt8) :
    Calls Try.prog 20 #[ptrV x, .int .u8 c.toNat] w fun e w' => ∃ r, PlaceB (k.map RT.first) c r ∧ e = .returned (.tuple #[.int .i64 r, .bool (decide (r < k.length ∧ (k.map RT.first).getD r 0 = c))]) ∧ Below w.heap.size w w' := by
  obtain ⟨w1, hw1⟩ : ∃ w1, w1 = (w.alloc (.cells #[ptrV x] 38)).alloc (.cells #[.int .u8 c.toNat] 5) := ⟨_, rfl⟩
  have hb1 : Below w.heap.size w w1 := by rw [hw1]; exact ((Below.refl _ _).alloc (Nat.le_refl _) _).alloc (by simp) _
  have q1 : ∀ m, (w1.drewN m).cell? ⟨w.heap.size, 0, none⟩ = some (ptrV x) := fun m => by rw [hw1]; unfold ptrV; go_simp
  have q2 : ∀ m, (w1.drewN m).cell? ⟨w.heap.size + 1, 0, none⟩ = some (.int .u8 c.toNat) := fun m => by rw [hw1]; unfold ptrV; go_simp
  have hN := fun m => NodeAt.chg (Chg.drewN (fun _ => False) w1 m) (fun _ _ => id) (NodeAt.chg (Chg.of_below (fun _ => False) hb1) (fun _ _ => id) h fun _ _ => id) fun _ _ => id
  have hF : ∀ i, i < k.length → ∀ m, Calls Try.prog 23 (#[.int .i64 i] ++ #[.pointer (some ⟨w.heap.size, 0, none⟩), .pointer (some ⟨w.heap.size + 1, 0, none⟩)]) (w1.drewN m) fun e w' => e = .returned (.bool (decide ((c.toNat : Int) ≤ ((k.map RT.first).getD i 0).toNat))) ∧ ∃ m', w' = (w1.drewN m).drewN m' := fun i hi m => by
    obtain ⟨g, cap, y, q, p, mm, cm, k1, k2, k3, k4, k5⟩ := kid_cells (hN m) hb hi
    have := radSeek1 (o := 0) (i := i) (q1 m) (q2 m) k1 hi (by omega) (by rw [Nat.zero_add]; exact k2) k3 k4 k5
    rw [show ((k.map RT.first).getD i 0) = k[i].first by simp [List.getD, hi]]
    exact this
  have hkv : ∃ a cap, w.cell? ⟨x, 1, none⟩ = some (.slice a k.length cap) := by
    have h0 := h
    rw [NodeAt] at h0
    obtain ⟨a, ca, kv, xs, rows, h1, _, h3, _⟩ := h0
    obtain ⟨a', cap', rfl, _⟩ := h3.arg
    exact ⟨a', cap', cell_in h1 (i := 1) rfl⟩
  obtain ⟨a, cap, ew⟩ := hkv
  have hx : x < w.heap.size := World.block_lt_of_cell? w _ ew
  have hkv : ∀ m, (w1.drewN m).cell? ⟨x, 1, none⟩ = some (.slice a k.length cap) := fun m => (hb1.cell (p := ⟨x, 1, none⟩) (World.block_lt_of_cell? w _ ew)).trans ew
  have HS := Lib.hid (search_any k.length 23 #[.pointer (some ⟨w.heap.size, 0, none⟩), .pointer (some ⟨w.heap.size + 1, 0, none⟩)] (fun i => decide ((c.toNat : Int) ≤ ((k.map RT.first).getD i 0).toNat)) w1 (by omega) (fun w args => rfl) hF
    (fun i j hij hj hx => by
      simp only [decide_eq_true_eq] at hx ⊢
      rcases Nat.lt_or_ge i j with hlt | hge
      · have := List.pairwise_iff_getElem.1 hr i j (by simp; omega) (by simpa using hj) hlt
        rw [UInt8.lt_iff_toNat_lt] at this
        simp [List.getD, hj, show i < k.length by omega] at hx this ⊢
        omega
      · obtain rfl : i = j := by omega
        exact hx))
  have HW := Lib.hid hw1
  have HB := Lib.hid hb1
  have HN := Lib.hid hN
  have e0 := q1 0
  have e1 := hkv 0
  rw [World.drewN_zero] at e0 e1
  have HQ := Lib.hid (And.intro q1 (And.intro q2 hkv))
  have hkv2 := hkv 0
  rw [World.drewN_zero, HW.out] at hkv2
  unfold ptrV at *
  clear hw1 hb1 hN hF q1 q2 hkv h
  go_enter Try.func20, Try.ntmps20
  go_wp2_with fail
  rw [← HW.out]
  refine HS.out.mono ?_
  rintro e w' ⟨r, hrl, rfl, p1, p2, m, rfl⟩
  have HP : Hid (PlaceB (k.map RT.first) c r) := Lib.hid ⟨by simpa using hrl, fun i hi => by
    have := p1 i hi
    simp only [decide_eq_false_iff_not] at this
    rw [UInt8.lt_iff_toNat_lt]; omega, fun i h1 h2 => by
    have := p2 i h1 (by simpa using h2)
    simp only [decide_eq_true_eq] at this
    rw [UInt8.le_iff_toNat_le]; omega⟩
  have e2 := HQ.out.1 m
  have e3 := HQ.out.2.1 m
  have e4 := HQ.out.2.2 m
  have HBm := Lib.hid (belowN HB.out (m + 1))
  rcases Nat.lt_or_ge r k.length with hlt | hge
  · obtain ⟨g, cap', y, q, p, mm, cm, k1, k2, k3, k4, k5⟩ := kid_cells (HN.out m) hb hlt
    have hfr : (k.map RT.first).getD r 0 = k[r].first := by simp [List.getD, hlt]
    have hbe : (((k[r].first.toNat : Nat) : Int) == (c.toNat : Int)) = decide (r < k.length ∧ (k.map RT.first).getD r 0 = c) := by
      rw [hfr, Bool.eq_iff_iff, beq_iff_eq, decide_eq_true_eq, Int.ofNat_inj, UInt8.toNat_inj]
      exact ⟨fun h => ⟨hlt, h⟩, fun h => h.2⟩
    rw [e4] at k1
    obtain ⟨rfl, rfl⟩ : a = some ⟨g, 0, none⟩ ∧ cap = cap' := by simpa using k1
    clear k1
    obtain ⟨X1, fx, hX1, hf, hF⟩ := classOf (fun z : World => z.cell? ⟨w.heap.size, 0, none⟩ = some (.pointer (some ⟨x, 0, none⟩)) ∧ z.cell? ⟨w.heap.size + 1, 0, none⟩ = some (.int .u8 c.toNat) ∧ z.cell? ⟨x, 1, none⟩ = some (.slice (some ⟨g, 0, none⟩) k.length cap) ∧
      z.cell? ⟨g, r, none⟩ = some (.pointer (some ⟨y, 0, none⟩)) ∧ z.cell? ⟨y, 0, none⟩ = some (.slice (some ⟨q, p, none⟩) mm cm) ∧ z.cell? ⟨q, p, none⟩ = some (.int .u8 k[r].first.toNat)) ⟨e2, e3, e4, k2, k3, k5⟩
    have f1 := fun z => (hf z).1
    have f2 := fun z => (hf z).2.1
    have f3 := fun z => (hf z).2.2.1
    have f4 := fun z => (hf z).2.2.2.1
    have f5 := fun z => (hf z).2.2.2.2.1
    have f6 := fun z => (hf z).2.2.2.2.2
    have HF := Lib.hid (hF (w1.drewN m).drew ⟨e2, e3, e4, k2, k3, k5⟩)
    have HBe := Lib.hid hbe
    clear hF hf e2 e3 e4 k2 k3 k5 hfr hbe ew hkv2 e0 e1
    go_wp2_with fail
    refine wp_region_text ⟨[], [], 26⟩ (fun w' => ∃ x : X1, w' = fx x) (by kernel_rfl) (by kernel_rfl) HF.out ?_
    refine wpC_seg false (HF.out) 26 0 _ _ (by rfl) (by rfl) ?_
    simp only [List.take_succ_cons, List.take_zero, List.drop_succ_cons, List.drop_zero, Bool.false_eq_true, if_false, Nat.zero_add, Nat.reduceAdd]
    repeat (go_big_quiet_step (fail))
    refine wpQuiet_nil ?_
    refine wpC_nil ?_
    clear f1 f2 f3 f4 f5 f6 HF hX1
    go_wp2_with fail
    go_ret2
    exact ⟨r, HP.out, by rw [← HBe.out]; rfl, HBm.out⟩
  · have hno : decide (r < k.length ∧ (k.map RT.first).getD r 0 = c) = false := by simp; omega
    have HNo := Lib.hid hno
    have e5 : decide (r < k.length) = false := by simp; omega
    obtain ⟨X1, fx, hX1, hf, hF⟩ := classOf (fun z : World => z.cell? ⟨w.heap.size, 0, none⟩ = some (.pointer (some ⟨x, 0, none⟩)) ∧ z.cell? ⟨x, 1, none⟩ = some (.slice a k.length cap)) ⟨e2, e4⟩
    have f1 := fun z => (hf z).1
    have f3 := fun z => (hf z).2
    have HF := Lib.hid (hF (w1.drewN m).drew ⟨e2, e4⟩)
    clear hF hf e2 e3 e4 ew hkv2 e0 e1 hno
    go_wp2_with fail
    refine wp_region_text ⟨[], [], 26⟩ (fun w' => ∃ x : X1, w' = fx x) (by kernel_rfl) (by kernel_rfl) HF.out ?_
    refine wpC_seg false (HF.out) 26 0 _ _ (by rfl) (by rfl) ?_
    simp only [List.take_succ_cons, List.take_zero, List.drop_succ_cons, List.drop_zero, Bool.false_eq_true, if_false, Nat.zero_add, Nat.reduceAdd]
    repeat (go_big_quiet_step (fail))
    refine wpQuiet_nil ?_
    refine wpC_nil ?_
    clear f1 f3 HF hX1
    go_wp2_with fail
    go_ret2
    exact ⟨r, HP.out, by rw [HNo.out]; rfl, HBm.out⟩
end Go.Proofs.Ytbjpfnafhhbmaaa.Rad
