/- radix: the law's alive. -/
import Derived.Test.YtbjpfnafhhbmaaaRadB
namespace Go.Proofs.Ytbjpfnafhhbmaaa.Rad
open Go.Proofs.Ytbjpfnafhhbmaaa
set_option linter.unusedVariables false
set_option linter.unusedSimpArgs false
open Go.RowKit RT
def L0 : List (Nat × Nat) := [(5, 1), (5, 2), (7, 0)]
def T0 : Option RT := fillK L0 3
def T1 : Option RT := putO T0 (idBytes 7 0) 9
def T2 : Option RT := delO T1 (idBytes 7 0)
set_option maxRecDepth 100000 in
theorem alive_facts : (itemsO T0).length = 3 ∧ nodesO T0 = 5 ∧ lookO T0 (idBytes 5 2) = some 1 ∧ lookO T0 (idBytes 7 0) = some 2 ∧ lookO T1 (idBytes 7 0) = some 9 ∧ lookO T2 (idBytes 7 0) = none ∧ nodesO T2 = 3 := by
  decide +kernel
theorem TreeF.len {w : World} {p : Nat} {G : Nat → Prop} {T : Option RT} {n : Nat} (h : TreeF w p G T n) : Calls Try.prog 8 #[.pointer (some ⟨p, 0, none⟩)] w fun e w' => e = .returned (.int .i64 n) ∧ w = w' := by
  obtain ⟨v, hh, _⟩ := h.head
  exact radLen hh
set_option maxHeartbeats 1600000 in
set_option maxRecDepth 100000 in
theorem alive_any (w : World) : Calls Try.prog 5 #[] w fun e w' => e = .returned (.bool true) ∧ Below w.heap.size w w' := by
  obtain ⟨w1, hw1⟩ : ∃ w1, w1 = w.alloc (.cells #[.int .u64 5, .int .u64 1, .int .u64 5, .int .u64 2, .int .u64 7, .int .u64 0] 25) := ⟨_, rfl⟩
  have hb1 : Below w.heap.size w w1 := by rw [hw1]; exact (Below.refl _ _).alloc (Nat.le_refl _) _
  have hr : IdRow w1 (some ⟨w.heap.size, 0, none⟩) 3 3 L0 := by
    have hh : w1.heap[w.heap.size]? = some (.cells #[.int .u64 5, .int .u64 1, .int .u64 5, .int .u64 2, .int .u64 7, .int .u64 0] 25 (0, 0)) := by rw [hw1]; exact heap_new _ _
    refine ⟨rfl, Nat.le_refl _, by decide, .inr ⟨_, 0, rfl, fun i hi => ?_⟩⟩
    match i, hi with
    | 0, _ => exact ⟨cell_in hh rfl, cell_in hh rfl⟩
    | 1, _ => exact ⟨cell_in hh rfl, cell_in hh rfl⟩
    | 2, _ => exact ⟨cell_in hh rfl, cell_in hh rfl⟩
  obtain ⟨a1, a2, a3, a4, a5, a6, a7⟩ := alive_facts
  have HF := Lib.hid (filled_any hr (by omega))
  have HW1 := Lib.hid hw1
  have HB1 := Lib.hid hb1
  have HA := Lib.hid (And.intro a1 (And.intro a2 (And.intro a3 (And.intro a4 (And.intro a5 (And.intro a6 a7))))))
  clear hw1 hb1 hr a1 a2 a3 a4 a5 a6 a7
  go_enter Try.func5, Try.ntmps5
  go_wp2_with fail
  rw [← HW1.out]
  refine HF.out.mono ?_
  rintro e w2 ⟨p, G, rfl, t2, b2, k2⟩
  have hb2 := HB1.out.trans (b2.mono HB1.out.size)
  have t2' : TreeF w2 p G T0 3 := by have := t2; rw [show fillK L0 3 = T0 from rfl, HA.out.1] at this; exact this
  have HG := Lib.hid (radGet t2' (ms := 5) (seq := 2) (by omega) (by omega))
  have H2 := Lib.hid (And.intro t2' (And.intro hb2 fun k hk => Nat.le_trans HB1.out.size (k2 k hk)))
  clear t2 t2' b2 k2 hb2
  go_wp2_with fail
  refine HG.out.mono ?_
  rintro e w3 ⟨he, b3⟩
  rw [HA.out.2.2.1] at he
  subst he
  have t3 := H2.out.1.below b3
  have H3 := Lib.hid (And.intro t3 (H2.out.2.1.trans (b3.mono H2.out.2.1.size)))
  have HLn := Lib.hid (TreeF.len t3)
  have HNo := Lib.hid (radNodes t3 (by rw [HA.out.2.1]; omega))
  rw [HA.out.2.1] at HNo
  clear t3 b3
  go_wp2_with fail
  refine HLn.out.mono ?_
  rintro e w' ⟨rfl, rfl⟩
  go_wp2_with fail
  refine HNo.out.mono ?_
  rintro e w4 ⟨rfl, b4⟩
  have t4 := H3.out.1.below b4
  have H4 := Lib.hid (And.intro t4 (H3.out.2.trans (b4.mono H3.out.2.size)))
  have HP := Lib.hid (radPut t4 (ms := 7) (seq := 0) (by omega) (by omega) 9 (by omega))
  rw [HA.out.2.2.2.1] at HP
  clear t4 b4
  go_wp2_with fail
  refine HP.out.mono ?_
  rintro e w5 ⟨rfl, G5, t5, f5, c5⟩
  have b5 := belowChg H4.out.2 c5 H4.out.2.size fun j hj _ => H2.out.2.2 j hj
  have HD := Lib.hid (radDelete t5 (ms := 7) (seq := 0) (by omega) (by omega) (by simp) (fun _ => by simp))
  have H5 := Lib.hid (And.intro t5 (And.intro b5 fun k (hk : G5 k) => (f5 k hk).elim (H2.out.2.2 k) fun h => Nat.le_trans H4.out.2.size h))
  clear t5 f5 c5 b5
  go_wp2_with fail
  refine HD.out.mono ?_
  rintro e w6 ⟨he, G6, t6, f6, c6⟩
  have hl1 : lookO (putO T0 (idBytes 7 0) 9) (idBytes 7 0) = some 9 := HA.out.2.2.2.2.1
  rw [hl1] at he t6
  subst he
  have b6 := belowChg H5.out.2.1 c6 H5.out.2.1.size fun j hj _ => H5.out.2.2 j hj
  have t6' : TreeF w6 p G6 T2 2 := t6
  have HD2 := Lib.hid (radDelete t6' (ms := 7) (seq := 0) (by omega) (by omega) (by omega) (fun _ => by omega))
  have H6 := Lib.hid (And.intro t6' (And.intro b6 fun k (hk : G6 k) => (f6 k hk).elim (H5.out.2.2 k) fun h => Nat.le_trans H5.out.2.1.size h))
  clear t6 t6' f6 c6 b6 hl1
  go_wp2_with fail
  refine HD2.out.mono ?_
  rintro e w7 ⟨he, G7, t7, f7, c7⟩
  rw [HA.out.2.2.2.2.2.1] at he t7
  subst he
  have b7 := belowChg H6.out.2.1 c7 H6.out.2.1.size fun j hj _ => H6.out.2.2 j hj
  have HNo2 := Lib.hid (radNodes (T := T2) (n := 2) t7 (by rw [HA.out.2.2.2.2.2.2]; omega))
  rw [HA.out.2.2.2.2.2.2] at HNo2
  have HB7 := Lib.hid b7
  clear t7 f7 c7 b7
  go_wp2_with fail
  refine HNo2.out.mono ?_
  rintro e w8 ⟨rfl, b8⟩
  have HB8 := Lib.hid (HB7.out.trans (b8.mono HB7.out.size))
  clear b8
  go_wp2_with fail
  go_ret
  exact ⟨rfl, HB8.out⟩
end Go.Proofs.Ytbjpfnafhhbmaaa.Rad
