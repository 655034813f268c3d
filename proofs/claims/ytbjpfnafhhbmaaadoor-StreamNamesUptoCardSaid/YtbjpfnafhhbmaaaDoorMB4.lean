/- Lemmas and walks for StreamNames, part 4 of 5: the texts Stm12, Stm13. -/
import Derived.Test.YtbjpfnafhhbmaaaDoorMB3
/- StreamNames' walk. -/
namespace Go.Proofs.YtbjpfnafhhbmaaaDoor.Sad
open Go.Proofs.YtbjpfnafhhbmaaaDoor
set_option linter.unusedVariables false
set_option linter.unusedSimpArgs false
open Go.RowKit RT Go.Shelf
set_option maxHeartbeats 6400000 in
set_option maxRecDepth 100000 in
theorem streamNames_walk {w : World} (hl : Laid w) (s : ByteArray) (hs : s.size < 4294967281) (seq : Nat) (hsq : seq < 18446744073709551616) (m q : Nat) (hm : m < 18446744073709551616) (hq : q < 18446744073709551616) :
    Calls Tryd.prog 3 #[.string s, .int .u64 seq, .agg #[.int .u64 m, .int .u64 q]] w fun e w' => e = .returned (.bool true) ∧ Below w.heap.size w w' := by
  obtain ⟨w1, hw1⟩ : ∃ w1, w1 = w.alloc (.cells #[.int .u64 m, .int .u64 q] 24) := ⟨_, rfl⟩
  have hb1 : Below w.heap.size w w1 := by rw [hw1]; exact (Below.refl _ _).alloc (Nat.le_refl _) _
  have hh1 : w1.heap[w.heap.size]? = some (.cells #[.int .u64 m, .int .u64 q] 24 (0, 0)) := by rw [hw1]; exact heap_new _ _
  have HJ := fun w' (hb : Below w.heap.size w w') => id_any s seq hs hsq (hl.below hb)
  have HK := fun w' => refID s hs seq w'
  obtain ⟨⟨⟨c, d⟩, ok⟩, hN⟩ : ∃ N, idS s seq = N := ⟨_, rfl⟩
  rw [hN] at HJ HK
  have HT := Lib.hid (fun w' (hb : Below w.heap.size w w') => idText_any m q hm hq (hl.below hb))
  have HU := Lib.hid (fun w' => refIDText m q hm hq w')
  obtain ⟨t, ht⟩ : ∃ t, idT m q = t := ⟨_, rfl⟩
  rw [ht] at HT HU
  have HJ2 := Lib.hid HJ
  have HK2 := Lib.hid HK
  have HV := Lib.hid (fun w' (hb : Below w.heap.size w w') => lives_any (hl.below hb))
  have HW1 := Lib.hid hw1
  have HB1 := Lib.hid (And.intro hb1 hh1)
  clear hl hm hq hs hw1 hb1 hh1 HJ HK hN ht hsq
  go_enter Tryd.func3, Tryd.ntmps3
  go_wp2_with fail
  rw [← HW1.out]
  refine (HJ2.out _ HB1.out.1).mono ?_
  rintro e w2 ⟨rfl, b2⟩
  have HB2 := Lib.hid (And.intro (HB1.out.1.trans (b2.mono HB1.out.1.size)) ((b2.block _ (heap_lt HB1.out.2)).trans HB1.out.2))
  clear b2
  go_upto_region 2 with (fail)
  obtain ⟨w3, hw3⟩ : ∃ w3, w3 = w2.alloc (.cells #[.int .u64 c, .int .u64 d] 24) := ⟨_, rfl⟩
  rw [← hw3]
  have h33 : w3.heap[w2.heap.size]? = some (.cells #[.int .u64 c, .int .u64 d] 24 (0, 0)) := by rw [hw3]; exact heap_new _ _
  have b3 : Below w2.heap.size w2 w3 := by rw [hw3]; exact (Below.refl _ _).alloc (Nat.le_refl _) _
  have HB3 := Lib.hid (And.intro (HB2.out.1.trans (b3.mono HB2.out.1.size)) (And.intro ((b3.block _ (heap_lt HB2.out.2)).trans HB2.out.2) h33))
  clear hw3 h33 b3
  go_wp2_with fail
  refine (HK2.out _).mono ?_
  rintro e w4 ⟨rfl, b4⟩
  go_upto_region 3 with (fail)
  obtain ⟨w5, hw5⟩ : ∃ w5, w5 = w4.alloc (.cells #[.int .u64 c, .int .u64 d] 24) := ⟨_, rfl⟩
  rw [← hw5]
  have h55 : w5.heap[w4.heap.size]? = some (.cells #[.int .u64 c, .int .u64 d] 24 (0, 0)) := by rw [hw5]; exact heap_new _ _
  have b35 : Below w3.heap.size w3 w5 := by rw [hw5]; exact b4.alloc b4.size _
  have h52 := (b35.block _ (heap_lt HB3.out.2.2)).trans HB3.out.2.2
  have h50 := (b35.block _ (heap_lt HB3.out.2.1)).trans HB3.out.2.1
  have HB5 := Lib.hid (HB3.out.1.trans (b35.mono HB3.out.1.size))
  have HC := Lib.hid (show ∀ w', Below w5.heap.size w5 w' → (w'.cell? ⟨w.heap.size, 0, none⟩ = some (.int .u64 m) ∧ w'.cell? ⟨w.heap.size, 1, none⟩ = some (.int .u64 q)) ∧ (w'.cell? ⟨w2.heap.size, 0, none⟩ = some (.int .u64 c) ∧ w'.cell? ⟨w2.heap.size, 1, none⟩ = some (.int .u64 d)) ∧ w'.cell? ⟨w4.heap.size, 0, none⟩ = some (.int .u64 c) ∧ w'.cell? ⟨w4.heap.size, 1, none⟩ = some (.int .u64 d) from fun w' hb => by
    have e1 := (hb.block _ (heap_lt h50)).trans h50
    have e2 := (hb.block _ (heap_lt h52)).trans h52
    have e3 := (hb.block _ (heap_lt h55)).trans h55
    exact ⟨⟨cell_in e1 rfl, cell_in e1 rfl⟩, ⟨cell_in e2 rfl, cell_in e2 rfl⟩, cell_in e3 rfl, cell_in e3 rfl⟩)
  clear hw5 h55 b35 h52 h50 b4 HB3 HB2 HB1
  obtain ⟨X1, f, hX1, hf, hF⟩ := classOf (fun w' => (w'.cell? ⟨w.heap.size, 0, none⟩ = some (.int .u64 m) ∧ w'.cell? ⟨w.heap.size, 1, none⟩ = some (.int .u64 q)) ∧ (w'.cell? ⟨w2.heap.size, 0, none⟩ = some (.int .u64 c) ∧ w'.cell? ⟨w2.heap.size, 1, none⟩ = some (.int .u64 d)) ∧ w'.cell? ⟨w4.heap.size, 0, none⟩ = some (.int .u64 c) ∧ w'.cell? ⟨w4.heap.size, 1, none⟩ = some (.int .u64 d)) (w := w5) (HC.out w5 (Below.refl _ _))
  have f1 := fun x => (hf x).1.1
  have f2 := fun x => (hf x).1.2
  have f3 := fun x => (hf x).2.1.1
  have f4 := fun x => (hf x).2.1.2
  have f5 := fun x => (hf x).2.2.1
  have f6 := fun x => (hf x).2.2.2
  have HF1 := Lib.hid hF
  have HFa := Lib.hid (hF w5.drew (HC.out w5.drew (belowN (Below.refl _ _) 1)))
  clear hF hf
  refine wp_region_text ⟨[10, 12, 16], [17, 18], 16⟩ (fun w' => ∃ x : X1, w' = f x) (by kernel_rfl) (by kernel_rfl) HFa.out ?_
  refine wpC_seg false (HFa.out) 10 0 _ _ (by rfl) (by rfl) ?_
  simp only [List.take_succ_cons, List.take_zero, List.drop_succ_cons, List.drop_zero, Bool.false_eq_true, if_false, Nat.zero_add, Nat.reduceAdd]
  repeat (go_big_quiet_step (fail))
  refine wpQuiet_nil ?_
  refine wpC_loud (by rfl) (by rfl) fun K hK => ?_
  go_wp2_with fail
  refine (HT.out _ (belowN HB5.out 1)).mono ?_
  rintro e w6 ⟨rfl, b6⟩
  have HB6 := Lib.hid ((belowN (Below.refl w5.heap.size w5) 1).trans b6)
  have HF2 := Lib.hid (HF1.out w6 (HC.out w6 HB6.out))
  refine hK _ _ (fun _ => HF2.out) ?_
  clear hK b6
  refine wpC_seg false (HF2.out) 1 11 _ _ (by rfl) (by rfl) ?_
  simp only [List.take_succ_cons, List.take_zero, List.drop_succ_cons, List.drop_zero, Bool.false_eq_true, if_false, Nat.zero_add, Nat.reduceAdd]
  repeat (go_big_quiet_step (fail))
  refine wpQuiet_nil ?_
  refine wpC_loud (by rfl) (by rfl) fun K hK => ?_
  go_wp2_with fail
  refine (HU.out _).mono ?_
  rintro e w7 ⟨rfl, b7⟩
  have HB7 := Lib.hid (HB6.out.trans (b7.mono HB6.out.size))
  have HF3 := Lib.hid (HF1.out w7 (HC.out w7 HB7.out))
  refine hK _ _ (fun _ => HF3.out) ?_
  clear hK b7
  refine wpC_seg false (HF3.out) 3 13 _ _ (by rfl) (by rfl) ?_
  simp only [List.take_succ_cons, List.take_zero, List.drop_succ_cons, List.drop_zero, Bool.false_eq_true, if_false, Nat.zero_add, Nat.reduceAdd]
  repeat (go_big_quiet_step (fail))
  refine wpQuiet_nil ?_
  refine wpC_loud (by rfl) (by rfl) fun K hK => ?_
  go_wp2_with fail
  have HB8 := Lib.hid (HB5.out.trans (HB7.out.mono HB5.out.size))
  refine (HV.out _ HB8.out).mono ?_
  rintro e w8 ⟨rfl, b8⟩
  have HB9 := Lib.hid (HB8.out.trans (b8.mono HB8.out.size))
  refine hK _ _ (fun h => absurd h (by decide)) ?_
  clear hK b8
  refine wpC_segD 2 17 _ _ (by rfl) (by rfl) ?_
  simp only [List.take_succ_cons, List.take_zero, List.drop_succ_cons, List.drop_zero, if_true, Nat.zero_add, Nat.reduceAdd]
  repeat (go_big_quiet_step (fail))
  refine wpQuiet_nil ?_
  refine wpC_nil ?_
  clear f1 f2 f3 f4 f5 f6 hX1 HF1 HFa HF2 HF3 f
  go_wp2_with fail
  go_ret
  exact ⟨rfl, HB9.out⟩
end Go.Proofs.YtbjpfnafhhbmaaaDoor.Sad

/- The walks of StreamSpells and StreamNames as their rows want them. -/
namespace Go.Proofs.YtbjpfnafhhbmaaaDoor
set_option linter.unusedVariables false
open Go.RowKit
theorem u64_nat {a : Int} (h : (Lit.int .u64 a).wf = true) : ∃ n : Nat, a = n ∧ n < 18446744073709551616 := by
  have hx : 0 ≤ a ∧ a ≤ 18446744073709551615 := by simpa [Lit.wf, IntKind.min, IntKind.max, IntKind.signed, IntKind.bits] using h
  exact ⟨a.toNat, by omega, by omega⟩
theorem streamSpells_walk {w : World} (hl : Laid w) (a b : Int) (s : ByteArray) (ha : (Lit.int .u64 a).wf = true) (hb : (Lit.int .u64 b).wf = true) (hs : s.size ≤ 1048576) :
    Calls Tryd.prog 4 #[.agg #[.int .u64 a, .int .u64 b], .string s] w fun e w' => e = .returned (.bool true) ∧ Below w.heap.size w w' := by
  obtain ⟨m, rfl, hm⟩ := u64_nat ha
  obtain ⟨q, rfl, hq⟩ := u64_nat hb
  exact Sad.streamSpells_walk hl m q hm hq s (by omega)
theorem streamNames_walk {w : World} (hl : Laid w) (s : ByteArray) (n a b : Int) (hs : s.size ≤ 1048576) (hn : (Lit.int .u64 n).wf = true) (ha : (Lit.int .u64 a).wf = true) (hb : (Lit.int .u64 b).wf = true) :
    Calls Tryd.prog 3 #[.string s, .int .u64 n, .agg #[.int .u64 a, .int .u64 b]] w fun e w' => e = .returned (.bool true) ∧ Below w.heap.size w w' := by
  obtain ⟨k, rfl, hk⟩ := u64_nat hn
  obtain ⟨m, rfl, hm⟩ := u64_nat ha
  obtain ⟨q, rfl, hq⟩ := u64_nat hb
  exact Sad.streamNames_walk hl s (by omega) k hk m q hm hq
end Go.Proofs.YtbjpfnafhhbmaaaDoor
