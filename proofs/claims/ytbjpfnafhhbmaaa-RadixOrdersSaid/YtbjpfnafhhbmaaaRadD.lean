/- radix: RadixUndoes' walk. -/
import Derived.Test.YtbjpfnafhhbmaaaRadC
import Derived.Laws.StructEq
namespace Go.Proofs.Ytbjpfnafhhbmaaa.Rad
open Go.Proofs.Ytbjpfnafhhbmaaa
set_option linter.unusedVariables false
set_option linter.unusedSimpArgs false
open Go.RowKit RT
theorem fillK_has (L : List (Nat × Nat)) : ∀ k i, i < k → lookO (fillK L k) (idBytes (L.getD i (0, 0)).1 (L.getD i (0, 0)).2) ≠ none
  | 0, i, h => by omega
  | k + 1, i, h => by
    rw [fillK, look_putO (fillK_wf L k) (idBytes_length _ _) (idBytes_length _ _)]
    split
    · simp
    · next hne =>
      have : i < k := by
        rcases Nat.lt_or_ge i k with h1 | h1
        · exact h1
        · obtain rfl : i = k := by omega
          exact absurd rfl hne
      exact fillK_has L k i this
/-- What putting and deleting again leaves. -/
theorem undone {T : Option RT} (h : WFO T) {s : List UInt8} (hs : s.length = 16) (v : VT) (hn : lookO T s = none) : delO (putO T s v) s = T := by
  have hw := h.putO hs v
  have hl : lookO (putO T s v) s ≠ none := by rw [look_putO h hs hs, if_pos rfl]; simp
  refine canonO (hw.delO hs hl) h fun s' hs' => ?_
  rw [look_delO hw hs hs' hl, look_putO h hs hs']
  split
  · next e => rw [e, hn]
  · rfl
theorem gone {T : Option RT} (h : WFO T) {s s' : List UInt8} (hs : s.length = 16) (hs' : s'.length = 16) (v : VT) (hi : lookO T s' ≠ none) : (lookO (delO (putO T s v) s) s').isSome = decide (s' ≠ s) := by
  have hw := h.putO hs v
  have hl : lookO (putO T s v) s ≠ none := by rw [look_putO h hs hs, if_pos rfl]; simp
  rw [look_delO hw hs hs' hl, look_putO h hs hs']
  by_cases e : s' = s
  · simp [e]
  · rw [if_neg e, if_neg e]
    cases hh : lookO T s' with
    | none => exact absurd hh hi
    | some x => simp [e]
theorem gone_self {T : Option RT} (h : WFO T) {s : List UInt8} (hs : s.length = 16) (v : VT) : lookO (delO (putO T s v) s) s = none := by
  have hw := h.putO hs v
  have hl : lookO (putO T s v) s ≠ none := by rw [look_putO h hs hs, if_pos rfl]; simp
  rw [look_delO hw hs hs hl, if_pos rfl]
theorem len_gone {T : Option RT} (h : WFO T) {s : List UInt8} (hs : s.length = 16) (v : VT) : (itemsO (delO (putO T s v) s)).length + 1 = (itemsO (putO T s v)).length := by
  have hw := h.putO hs v
  have hl : lookO (putO T s v) s ≠ none := by rw [look_putO h hs hs, if_pos rfl]; simp
  exact len_delO hw hs hl
theorem id_struct : Try.prog.underlying 25 = some (.struct (Try.prog.fieldsOf 25)) := by kernel_rfl
@[go_sem] theorem eq_id (a b c d : Int) (w : World) : (Op.equalIn 10000 25 (.agg #[.int .u64 a, .int .u64 b]) (.agg #[.int .u64 c, .int .u64 d])).run Try.prog w = .ok (a == c && b == d) w := by
  rw [show (10000 : Nat) = 9999 + 1 from rfl, run_equalIn_struct w _ _ _ _ id_struct (by kernel_rfl)]
  have u1 : Try.prog.underlying 23 = some (.int .u64) := Try.underlying23
  simp only [Program.fieldsOf, Try.underlying25]
  simp [Op.eqFields, part, go_sem, u1]
  by_cases h1 : a = c <;> by_cases h2 : b = d <;> simp [h1, h2]
@[go_sem] theorem guard_id (op : BinOp) (w : World) (x y : Operand) (xs ys : Array Value) : (eqGuard op 25 x y (.agg xs) (.agg ys)).run Try.prog w = .ok () w := run_eqGuard_agg w op _ x y xs ys (by kernel_rfl)
set_option maxHeartbeats 6400000 in
set_option maxRecDepth 100000 in
theorem undo_new {w : World} {a : Option Addr} {len cap : Nat} {L : List (Nat × Nat)} (hr : IdRow w a len cap L) (hlen : len ≤ 300) {ms seq : Nat} (h1 : ms < 18446744073709551616) (h2 : seq < 18446744073709551616) (hl : lookO (fillK L len) (idBytes ms seq) = none) :
    Calls Try.prog 3 #[.slice a len cap, .agg #[.int .u64 ms, .int .u64 seq]] w fun e w' => e = .returned (.bool true) ∧ Below w.heap.size w w' := by
  obtain ⟨T, hT⟩ : ∃ T, fillK L len = T := ⟨_, rfl⟩
  rw [hT] at hl
  have hwf : WFO T := by rw [← hT]; exact fillK_wf L len
  obtain ⟨s, hs⟩ : ∃ s, idBytes ms seq = s := ⟨_, rfl⟩
  have hs16 : s.length = 16 := by rw [← hs]; exact idBytes_length _ _
  rw [hs] at hl
  obtain ⟨w1, hw1⟩ : ∃ w1, w1 = w.alloc (.cells #[.int .u64 ms, .int .u64 seq] 25) := ⟨_, rfl⟩
  have hb1 : Below w.heap.size w w1 := by rw [hw1]; exact (Below.refl _ _).alloc (Nat.le_refl _) _
  have hr1 := hr.below hb1
  have hh1 : w1.heap[w.heap.size]? = some (.cells #[.int .u64 ms, .int .u64 seq] 25 (0, 0)) := by rw [hw1]; exact heap_new _ _
  have hlt1 := heap_lt hh1
  obtain ⟨n, hn⟩ : ∃ n, (itemsO T).length = n := ⟨_, rfl⟩
  have hnlen : n ≤ len := by rw [← hn, ← hT]; exact fillK_len L len
  obtain ⟨N, hN⟩ : ∃ N, nodesO T = N := ⟨_, rfl⟩
  have hNb : N ≤ 600 := by have := (nodesO_le hwf).1; omega
  have HC := Lib.hid (show ∀ w', Below w1.heap.size w1 w' → w'.cell? ⟨w.heap.size, 0, none⟩ = some (.int .u64 ms) ∧ w'.cell? ⟨w.heap.size, 1, none⟩ = some (.int .u64 seq) from fun w' hb =>
    ⟨cell_in ((hb.block _ hlt1).trans hh1) rfl, cell_in ((hb.block _ hlt1).trans hh1) rfl⟩)
  have HAl := Lib.hid (alive_any w1)
  have HFi := Lib.hid (fun w' (hb : Below w1.heap.size w1 w') => filled_any (hr1.below hb) (show len ≤ 1000 by omega))
  have HGet := Lib.hid (fun w' p G T n (h : TreeF w' p G T n) => radGet h h1 h2)
  have HPut := Lib.hid (fun w' p G T n (h : TreeF w' p G T n) hn => radPut h h1 h2 (-1 : Int) hn)
  have HDel := Lib.hid (fun w' p G T n (h : TreeF w' p G T n) hn hl => radDelete h h1 h2 hn hl)
  rw [hT] at HFi
  rw [hs] at HGet HPut HDel
  have HW1 := Lib.hid hw1
  have HB1 := Lib.hid hb1
  have HR1 := Lib.hid hr1
  have HWf := Lib.hid (And.intro hwf (And.intro hs16 (And.intro hl (And.intro hn (And.intro hN hT)))))
  have HS := Lib.hid (And.intro hs (And.intro h1 h2))
  have hcap := hr.2.1
  clear hr hr1 hwf hT hs hs16 hl hn hN hw1 hb1 hh1 h1 h2
  go_enter Try.func3, Try.ntmps3
  go_wp2_with fail
  rw [← HW1.out]
  refine HAl.out.mono ?_
  rintro e w2 ⟨rfl, b2⟩
  have HB2 := Lib.hid b2
  have HF := Lib.hid (HFi.out w2 b2)
  clear b2
  go_wp2_with fail
  refine HF.out.mono ?_
  rintro e w3 ⟨p, G, rfl, t3, b3, k3⟩
  have hB3 := HB2.out.trans (b3.mono HB2.out.size)
  rw [HWf.out.2.2.2.1] at t3
  have HNo := Lib.hid (radNodes t3 (by rw [HWf.out.2.2.2.2.1]; omega))
  rw [HWf.out.2.2.2.2.1] at HNo
  have H3 := Lib.hid (And.intro t3 (And.intro hB3 fun k (hk : G k) => Nat.le_trans HB2.out.size (k3 k hk)))
  clear t3 b3 k3 hB3
  go_wp2_with fail
  refine HNo.out.mono ?_
  rintro e w4 ⟨rfl, b4⟩
  have t4 := H3.out.1.below b4
  have B4 := H3.out.2.1.trans (b4.mono H3.out.2.1.size)
  have HLn := Lib.hid (TreeF.len t4)
  have HG := Lib.hid (HGet.out w4 p G T n t4)
  obtain ⟨c0, c1⟩ := HC.out w4 B4
  have H4 := Lib.hid (And.intro t4 B4)
  clear t4 B4 b4
  go_wp2_with fail
  refine HLn.out.mono ?_
  rintro e w' ⟨rfl, rfl⟩
  go_wp2_with fail
  refine HG.out.mono ?_
  rintro e w5 ⟨he, b5⟩
  rw [HWf.out.2.2.1] at he
  subst he
  have t5 := H4.out.1.below b5
  have B5 := H4.out.2.trans (b5.mono H4.out.2.size)
  have HP := Lib.hid (HPut.out w5 p G T n t5 (by omega))
  rw [HWf.out.2.2.1] at HP
  clear c0 c1
  obtain ⟨c0, c1⟩ := HC.out w5 B5
  have H5 := Lib.hid (And.intro t5 B5)
  clear t5 B5 b5
  go_wp2_with fail
  refine HP.out.mono ?_
  rintro e w6 ⟨rfl, G6, t6, f6, c6⟩
  have t6' : TreeF w6 p G6 (putO T s (-1)) (n + 1) := t6
  have b6 := belowChg H5.out.2 c6 H5.out.2.size fun j hj _ => H3.out.2.2 j hj
  have HG2 := Lib.hid (HGet.out w6 p G6 _ _ t6')
  have hl6 : lookO (putO T s (-1)) s = some (-1) := by rw [look_putO HWf.out.1 HWf.out.2.1 HWf.out.2.1, if_pos rfl]
  have HL6 := Lib.hid hl6
  rw [hl6] at HG2
  have H6 := Lib.hid (And.intro t6' (And.intro b6 fun k (hk : G6 k) => (f6 k hk).elim (H3.out.2.2 k) fun h => Nat.le_trans H5.out.2.size h))
  clear c0 c1
  obtain ⟨c0, c1⟩ := HC.out w6 b6
  clear t6 t6' f6 c6 b6 hl6
  go_wp2_with fail
  refine HG2.out.mono ?_
  rintro e w7 ⟨rfl, b7⟩
  have t7 := H6.out.1.below b7
  have B7 := H6.out.2.1.trans (b7.mono H6.out.2.1.size)
  have HD := Lib.hid (HDel.out w7 p G6 _ _ t7 (by omega) (fun _ => by omega))
  clear c0 c1
  obtain ⟨c0, c1⟩ := HC.out w7 B7
  have HB7 := Lib.hid B7
  clear t7 b7 B7
  go_wp2_with fail
  refine HD.out.mono ?_
  rintro e w8 ⟨he, G8, t8, f8, c8⟩
  rw [HL6.out] at he t8
  subst he
  have t8' : TreeF w8 p G8 (delO (putO T s (-1)) s) (n + 1 - 1) := t8
  have b8 := belowChg HB7.out c8 HB7.out.size fun j hj _ => H6.out.2.2 j hj
  have HD2 := Lib.hid (HDel.out w8 p G8 _ _ t8' (by omega) (fun hh => absurd (gone_self HWf.out.1 HWf.out.2.1 (-1)) hh))
  have H8 := Lib.hid (And.intro b8 fun k (hk : G8 k) => (f8 k hk).elim (H6.out.2.2 k) fun h => Nat.le_trans HB7.out.size h)
  clear c0 c1
  obtain ⟨c0, c1⟩ := HC.out w8 b8
  clear t8 t8' f8 c8 b8
  go_wp2_with fail
  refine HD2.out.mono ?_
  rintro e w9 ⟨he, G9, t9, f9, c9⟩
  rw [gone_self HWf.out.1 HWf.out.2.1 (-1)] at he t9
  subst he
  have t9' : TreeF w9 p G9 (delO (putO T s (-1)) s) (n + 1 - 1) := t9
  have b9 := belowChg H8.out.1 c9 H8.out.1.size fun j hj _ => H8.out.2 j hj
  have HG3 := Lib.hid (HGet.out w9 p G9 _ _ t9')
  rw [gone_self HWf.out.1 HWf.out.2.1 (-1)] at HG3
  have H9 := Lib.hid (And.intro t9' b9)
  clear c0 c1
  obtain ⟨c0, c1⟩ := HC.out w9 b9
  clear t9 t9' f9 c9 b9
  go_wp2_with fail
  refine HG3.out.mono ?_
  rintro e w10 ⟨rfl, b10⟩
  have t10 := H9.out.1.below b10
  have B10 := H9.out.2.trans (b10.mono H9.out.2.size)
  have HNo2 := Lib.hid (radNodes t10 (by rw [undone HWf.out.1 HWf.out.2.1 (-1) HWf.out.2.2.1, HWf.out.2.2.2.2.1]; omega))
  have hT2 : nodesO (delO (putO T s (-1)) s) = N := by rw [undone HWf.out.1 HWf.out.2.1 (-1) HWf.out.2.2.1, HWf.out.2.2.2.2.1]
  rw [hT2] at HNo2
  have H10 := Lib.hid (And.intro t10 B10)
  clear t10 B10 b10 hT2 c0 c1
  go_wp2_with fail
  refine HNo2.out.mono ?_
  rintro e w11 ⟨rfl, b11⟩
  have t11 := H10.out.1.below b11
  have B11 := H10.out.2.trans (b11.mono H10.out.2.size)
  have HLn2 := Lib.hid (TreeF.len t11)
  rw [show n + 1 - 1 = n from rfl] at HLn2
  have H11 := Lib.hid (And.intro t11 B11)
  clear t11 B11 b11
  go_wp2_with fail
  refine HLn2.out.mono ?_
  rintro e w' ⟨rfl, rfl⟩
  go_wp2_with fail
  go_loopw [14] (fun i wr => ∃ k : Nat, k ≤ len ∧ i = .int .i64 k ∧ Hid (TreeF wr p G9 (delO (putO T s (-1)) s) (n + 1 - 1) ∧ Below w1.heap.size w1 wr)) (fun i _ => len - (intOf i).toNat)
  case atStart => exact ⟨0, Nat.zero_le _, rfl, H11⟩
  case round =>
    obtain ⟨k, hk, rfl, hI⟩ := hrel
    by_cases hlt : k < len
    · obtain ⟨r1, r2, r3, r4⟩ := HR1.out.below hI.out.2
      obtain ⟨b, o, rfl, hc⟩ := r4.resolve_left (by omega)
      obtain ⟨d0, d1⟩ := hc k hlt
      have hx := r3 (L.getD k (0, 0)) (by rw [show L.getD k (0, 0) = L[k]'(by omega) by simp [List.getD, show k < L.length by omega]]; exact List.getElem_mem _)
      have hG := radGet hI.out.1 hx.1 hx.2
      have hhas := fillK_has L len k hlt
      rw [HWf.out.2.2.2.2.2] at hhas
      have hgone := gone HWf.out.1 HWf.out.2.1 (idBytes_length _ _) (-1) hhas
      obtain ⟨m, hm⟩ : ∃ m, (L.getD k (0, 0)).1 = m := ⟨_, rfl⟩
      obtain ⟨q, hq⟩ : ∃ q, (L.getD k (0, 0)).2 = q := ⟨_, rfl⟩
      rw [hm, hq] at hG hgone hx
      rw [hm] at d0
      rw [hq] at d1
      have hdec : decide (idBytes m q ≠ s) = !(decide (m = ms) && decide (q = seq)) := by
        rw [← HS.out.1]
        by_cases e : m = ms ∧ q = seq
        · obtain ⟨rfl, rfl⟩ := e; simp
        · have : idBytes m q ≠ idBytes ms seq := fun h => e (idBytes_inj hx.1 hx.2 HS.out.2.1 HS.out.2.2 h)
          rw [decide_eq_true this]
          rcases Decidable.em (m = ms) with h | h
          · have : q ≠ seq := fun h2 => e ⟨h, h2⟩
            simp [this]
          · simp [h]
      rw [hgone, hdec] at hG
      have HG := Lib.hid hG
      have HI := hI
      have HD01 := Lib.hid (show ∀ w', Below wr.heap.size wr w' → w'.cell? ⟨b, o + k * 2, none⟩ = some (.int .u64 m) ∧ w'.cell? ⟨b, o + k * 2 + 1, none⟩ = some (.int .u64 q) from fun w' hb =>
        ⟨(hb.cell (p := ⟨b, o + k * 2, none⟩) (World.block_lt_of_cell? wr _ d0)).trans d0, (hb.cell (p := ⟨b, o + k * 2 + 1, none⟩) (World.block_lt_of_cell? wr _ d1)).trans d1⟩)
      obtain ⟨b1, hb1⟩ : ∃ b1, decide (m = ms) = b1 := ⟨_, rfl⟩
      obtain ⟨b2, hb2⟩ : ∃ b2, decide (q = seq) = b2 := ⟨_, rfl⟩
      clear hG hgone hdec hhas hm hq r1 r2 r3 r4 hc hI hx
      go_wp2_with fail
      refine HG.out.mono ?_
      rintro e w12 ⟨rfl, b12⟩
      obtain ⟨e0, e1⟩ := HD01.out w12 b12
      obtain ⟨c0, c1⟩ := HC.out w12 (HI.out.2.trans (b12.mono HI.out.2.size))
      have HNx := Lib.hid (And.intro (HI.out.1.below b12) (HI.out.2.trans (b12.mono HI.out.2.size)))
      obtain ⟨X1, f, hX1, hf, hF⟩ := classOf (fun x => (x.cell? ⟨b, o + k * 2, none⟩ = some (.int .u64 m) ∧ x.cell? ⟨b, o + k * 2 + 1, none⟩ = some (.int .u64 q)) ∧ x.cell? ⟨w.heap.size, 0, none⟩ = some (.int .u64 ms) ∧ x.cell? ⟨w.heap.size, 1, none⟩ = some (.int .u64 seq)) (w := w12) ⟨⟨e0, e1⟩, c0, c1⟩
      have f1 := fun x => (hf x).1.1
      have f2 := fun x => (hf x).1.2
      have f3 := fun x => (hf x).2.1
      have f4 := fun x => (hf x).2.2
      have HF := Lib.hid (hF w12.drew ⟨⟨e0, e1⟩, c0, c1⟩)
      clear hF hf b12 d0 d1
      have ei1 : ((m : Int) == (ms : Int)) = b1 := by rw [← hb1, Bool.eq_iff_iff]; simp; omega
      have ei2 : ((q : Int) == (seq : Int)) = b2 := by rw [← hb2, Bool.eq_iff_iff]; simp; omega
      cases b1 <;> cases b2
      all_goals
        go_upto_region 18 with (fail)
        refine wp_region_text ⟨[], [], 8⟩ (fun w' => ∃ x : X1, w' = f x) (by kernel_rfl) (by kernel_rfl) HF.out ?_
        refine wpC_seg false (HF.out) 8 0 _ _ (by rfl) (by rfl) ?_
        simp only [List.take_succ_cons, List.take_zero, List.drop_succ_cons, List.drop_zero, Bool.false_eq_true, if_false, Nat.zero_add, Nat.reduceAdd]
        repeat (go_big_quiet_step (fail))
        refine wpQuiet_nil ?_
        refine wpC_nil ?_
        clear f1 f2 f3 f4 hX1 HF f
        go_wp2_with fail
        go_roundw
        case rel => exact ⟨k + 1, by omega, by go_num, Lib.hid ⟨HNx.out.1.chg (Chg.drew (fun _ => False) _) (fun _ _ => id), belowN HNx.out.2 1⟩⟩
        case measure => simp [intOf]; omega
    · obtain rfl : k = len := by omega
      have HE := Lib.hid (HB1.out.trans (hI.out.2.mono HB1.out.size))
      clear hI
      go_wp2_with fail
      go_ret
      exact ⟨rfl, HE.out⟩
set_option maxHeartbeats 6400000 in
set_option maxRecDepth 100000 in
theorem undo_old {w : World} {a : Option Addr} {len cap : Nat} {L : List (Nat × Nat)} (hr : IdRow w a len cap L) (hlen : len ≤ 300) {ms seq : Nat} {v0 : Int} (h1 : ms < 18446744073709551616) (h2 : seq < 18446744073709551616) (hl : lookO (fillK L len) (idBytes ms seq) = some v0) :
    Calls Try.prog 3 #[.slice a len cap, .agg #[.int .u64 ms, .int .u64 seq]] w fun e w' => e = .returned (.bool true) ∧ Below w.heap.size w w' := by
  obtain ⟨T, hT⟩ : ∃ T, fillK L len = T := ⟨_, rfl⟩
  rw [hT] at hl
  have hwf : WFO T := by rw [← hT]; exact fillK_wf L len
  obtain ⟨s, hs⟩ : ∃ s, idBytes ms seq = s := ⟨_, rfl⟩
  have hs16 : s.length = 16 := by rw [← hs]; exact idBytes_length _ _
  rw [hs] at hl
  obtain ⟨w1, hw1⟩ : ∃ w1, w1 = w.alloc (.cells #[.int .u64 ms, .int .u64 seq] 25) := ⟨_, rfl⟩
  have hb1 : Below w.heap.size w w1 := by rw [hw1]; exact (Below.refl _ _).alloc (Nat.le_refl _) _
  have hr1 := hr.below hb1
  have hh1 : w1.heap[w.heap.size]? = some (.cells #[.int .u64 ms, .int .u64 seq] 25 (0, 0)) := by rw [hw1]; exact heap_new _ _
  have hlt1 := heap_lt hh1
  obtain ⟨n, hn⟩ : ∃ n, (itemsO T).length = n + 1 := by
    have := len_gone hwf hs16 (-1)
    rw [len_putO hwf hs16, hl] at this
    simp only [Option.isNone_some, Bool.false_eq_true, if_false] at this
    exact ⟨_, this.symm⟩
  have hnlen : n + 1 ≤ len := by rw [← hn, ← hT]; exact fillK_len L len
  obtain ⟨N, hN⟩ : ∃ N, nodesO T = N := ⟨_, rfl⟩
  have hNb : N ≤ 600 := by have := (nodesO_le hwf).1; omega
  have HC := Lib.hid (show ∀ w', Below w1.heap.size w1 w' → w'.cell? ⟨w.heap.size, 0, none⟩ = some (.int .u64 ms) ∧ w'.cell? ⟨w.heap.size, 1, none⟩ = some (.int .u64 seq) from fun w' hb =>
    ⟨cell_in ((hb.block _ hlt1).trans hh1) rfl, cell_in ((hb.block _ hlt1).trans hh1) rfl⟩)
  have HAl := Lib.hid (alive_any w1)
  have HFi := Lib.hid (fun w' (hb : Below w1.heap.size w1 w') => filled_any (hr1.below hb) (show len ≤ 1000 by omega))
  have HGet := Lib.hid (fun w' p G T n (h : TreeF w' p G T n) => radGet h h1 h2)
  have HPut := Lib.hid (fun w' p G T n (h : TreeF w' p G T n) hn => radPut h h1 h2 (-1 : Int) hn)
  have HDel := Lib.hid (fun w' p G T n (h : TreeF w' p G T n) hn hl => radDelete h h1 h2 hn hl)
  rw [hT] at HFi
  rw [hs] at HGet HPut HDel
  have HW1 := Lib.hid hw1
  have HB1 := Lib.hid hb1
  have HR1 := Lib.hid hr1
  have HWf := Lib.hid (And.intro hwf (And.intro hs16 (And.intro hl (And.intro hn (And.intro hN hT)))))
  have HS := Lib.hid (And.intro hs (And.intro h1 h2))
  have hcap := hr.2.1
  clear hr hr1 hwf hT hs hs16 hl hn hN hw1 hb1 hh1 h1 h2
  go_enter Try.func3, Try.ntmps3
  go_wp2_with fail
  rw [← HW1.out]
  refine HAl.out.mono ?_
  rintro e w2 ⟨rfl, b2⟩
  have HB2 := Lib.hid b2
  have HF := Lib.hid (HFi.out w2 b2)
  clear b2
  go_wp2_with fail
  refine HF.out.mono ?_
  rintro e w3 ⟨p, G, rfl, t3, b3, k3⟩
  have hB3 := HB2.out.trans (b3.mono HB2.out.size)
  rw [HWf.out.2.2.2.1] at t3
  have HNo := Lib.hid (radNodes t3 (by rw [HWf.out.2.2.2.2.1]; omega))
  rw [HWf.out.2.2.2.2.1] at HNo
  have H3 := Lib.hid (And.intro t3 (And.intro hB3 fun k (hk : G k) => Nat.le_trans HB2.out.size (k3 k hk)))
  clear t3 b3 k3 hB3
  go_wp2_with fail
  refine HNo.out.mono ?_
  rintro e w4 ⟨rfl, b4⟩
  have t4 := H3.out.1.below b4
  have B4 := H3.out.2.1.trans (b4.mono H3.out.2.1.size)
  have HLn := Lib.hid (TreeF.len t4)
  have HG := Lib.hid (HGet.out w4 p G T (n + 1) t4)
  obtain ⟨c0, c1⟩ := HC.out w4 B4
  have H4 := Lib.hid (And.intro t4 B4)
  clear t4 B4 b4
  go_wp2_with fail
  refine HLn.out.mono ?_
  rintro e w' ⟨rfl, rfl⟩
  go_wp2_with fail
  refine HG.out.mono ?_
  rintro e w5 ⟨he, b5⟩
  rw [HWf.out.2.2.1] at he
  subst he
  have t5 := H4.out.1.below b5
  have B5 := H4.out.2.trans (b5.mono H4.out.2.size)
  have HP := Lib.hid (HPut.out w5 p G T (n + 1) t5 (by omega))
  rw [HWf.out.2.2.1] at HP
  clear c0 c1
  obtain ⟨c0, c1⟩ := HC.out w5 B5
  have H5 := Lib.hid (And.intro t5 B5)
  clear t5 B5 b5
  go_wp2_with fail
  refine HP.out.mono ?_
  rintro e w6 ⟨rfl, G6, t6, f6, c6⟩
  have t6' : TreeF w6 p G6 (putO T s (-1)) (n + 1) := t6
  have b6 := belowChg H5.out.2 c6 H5.out.2.size fun j hj _ => H3.out.2.2 j hj
  have HG2 := Lib.hid (HGet.out w6 p G6 _ _ t6')
  have hl6 : lookO (putO T s (-1)) s = some (-1) := by rw [look_putO HWf.out.1 HWf.out.2.1 HWf.out.2.1, if_pos rfl]
  have HL6 := Lib.hid hl6
  rw [hl6] at HG2
  have H6 := Lib.hid (And.intro t6' (And.intro b6 fun k (hk : G6 k) => (f6 k hk).elim (H3.out.2.2 k) fun h => Nat.le_trans H5.out.2.size h))
  clear c0 c1
  obtain ⟨c0, c1⟩ := HC.out w6 b6
  clear t6 t6' f6 c6 b6 hl6
  go_wp2_with fail
  refine HG2.out.mono ?_
  rintro e w7 ⟨rfl, b7⟩
  have t7 := H6.out.1.below b7
  have B7 := H6.out.2.1.trans (b7.mono H6.out.2.1.size)
  have HD := Lib.hid (HDel.out w7 p G6 _ _ t7 (by omega) (fun _ => by omega))
  clear c0 c1
  obtain ⟨c0, c1⟩ := HC.out w7 B7
  have HB7 := Lib.hid B7
  clear t7 b7 B7
  go_wp2_with fail
  refine HD.out.mono ?_
  rintro e w8 ⟨he, G8, t8, f8, c8⟩
  rw [HL6.out] at he t8
  subst he
  have t8' : TreeF w8 p G8 (delO (putO T s (-1)) s) (n + 1 - 1) := t8
  have b8 := belowChg HB7.out c8 HB7.out.size fun j hj _ => H6.out.2.2 j hj
  have HD2 := Lib.hid (HDel.out w8 p G8 _ _ t8' (by omega) (fun hh => absurd (gone_self HWf.out.1 HWf.out.2.1 (-1)) hh))
  have H8 := Lib.hid (And.intro b8 fun k (hk : G8 k) => (f8 k hk).elim (H6.out.2.2 k) fun h => Nat.le_trans HB7.out.size h)
  clear c0 c1
  obtain ⟨c0, c1⟩ := HC.out w8 b8
  clear t8 t8' f8 c8 b8
  go_wp2_with fail
  refine HD2.out.mono ?_
  rintro e w9 ⟨he, G9, t9, f9, c9⟩
  rw [gone_self HWf.out.1 HWf.out.2.1 (-1)] at he t9
  subst he
  have t9' : TreeF w9 p G9 (delO (putO T s (-1)) s) (n + 1 - 1) := t9
  have b9 := belowChg H8.out.1 c9 H8.out.1.size fun j hj _ => H8.out.2 j hj
  have HG3 := Lib.hid (HGet.out w9 p G9 _ _ t9')
  rw [gone_self HWf.out.1 HWf.out.2.1 (-1)] at HG3
  have H9 := Lib.hid (And.intro t9' b9)
  clear c0 c1
  obtain ⟨c0, c1⟩ := HC.out w9 b9
  clear t9 t9' f9 c9 b9
  go_wp2_with fail
  refine HG3.out.mono ?_
  rintro e w10 ⟨rfl, b10⟩
  have t10 := H9.out.1.below b10
  have B10 := H9.out.2.trans (b10.mono H9.out.2.size)
  have HLn2 := Lib.hid (TreeF.len t10)
  have H11 := Lib.hid (And.intro t10 B10)
  rw [show n + 1 - 1 = n from rfl] at HLn2
  clear t10 B10 b10 c0 c1
  go_wp2_with fail
  refine HLn2.out.mono ?_
  rintro e w' ⟨rfl, rfl⟩
  go_wp2_with fail
  go_loopw [14] (fun i wr => ∃ k : Nat, k ≤ len ∧ i = .int .i64 k ∧ Hid (TreeF wr p G9 (delO (putO T s (-1)) s) (n + 1 - 1) ∧ Below w1.heap.size w1 wr)) (fun i _ => len - (intOf i).toNat)
  case atStart => exact ⟨0, Nat.zero_le _, rfl, H11⟩
  case round =>
    obtain ⟨k, hk, rfl, hI⟩ := hrel
    by_cases hlt : k < len
    · obtain ⟨r1, r2, r3, r4⟩ := HR1.out.below hI.out.2
      obtain ⟨b, o, rfl, hc⟩ := r4.resolve_left (by omega)
      obtain ⟨d0, d1⟩ := hc k hlt
      have hx := r3 (L.getD k (0, 0)) (by rw [show L.getD k (0, 0) = L[k]'(by omega) by simp [List.getD, show k < L.length by omega]]; exact List.getElem_mem _)
      have hG := radGet hI.out.1 hx.1 hx.2
      have hhas := fillK_has L len k hlt
      rw [HWf.out.2.2.2.2.2] at hhas
      have hgone := gone HWf.out.1 HWf.out.2.1 (idBytes_length _ _) (-1) hhas
      obtain ⟨m, hm⟩ : ∃ m, (L.getD k (0, 0)).1 = m := ⟨_, rfl⟩
      obtain ⟨q, hq⟩ : ∃ q, (L.getD k (0, 0)).2 = q := ⟨_, rfl⟩
      rw [hm, hq] at hG hgone hx
      rw [hm] at d0
      rw [hq] at d1
      have hdec : decide (idBytes m q ≠ s) = !(decide (m = ms) && decide (q = seq)) := by
        rw [← HS.out.1]
        by_cases e : m = ms ∧ q = seq
        · obtain ⟨rfl, rfl⟩ := e; simp
        · have : idBytes m q ≠ idBytes ms seq := fun h => e (idBytes_inj hx.1 hx.2 HS.out.2.1 HS.out.2.2 h)
          rw [decide_eq_true this]
          rcases Decidable.em (m = ms) with h | h
          · have : q ≠ seq := fun h2 => e ⟨h, h2⟩
            simp [this]
          · simp [h]
      rw [hgone, hdec] at hG
      have HG := Lib.hid hG
      have HI := hI
      have HD01 := Lib.hid (show ∀ w', Below wr.heap.size wr w' → w'.cell? ⟨b, o + k * 2, none⟩ = some (.int .u64 m) ∧ w'.cell? ⟨b, o + k * 2 + 1, none⟩ = some (.int .u64 q) from fun w' hb =>
        ⟨(hb.cell (p := ⟨b, o + k * 2, none⟩) (World.block_lt_of_cell? wr _ d0)).trans d0, (hb.cell (p := ⟨b, o + k * 2 + 1, none⟩) (World.block_lt_of_cell? wr _ d1)).trans d1⟩)
      obtain ⟨b1, hb1⟩ : ∃ b1, decide (m = ms) = b1 := ⟨_, rfl⟩
      obtain ⟨b2, hb2⟩ : ∃ b2, decide (q = seq) = b2 := ⟨_, rfl⟩
      clear hG hgone hdec hhas hm hq r1 r2 r3 r4 hc hI hx
      go_wp2_with fail
      refine HG.out.mono ?_
      rintro e w12 ⟨rfl, b12⟩
      obtain ⟨e0, e1⟩ := HD01.out w12 b12
      obtain ⟨c0, c1⟩ := HC.out w12 (HI.out.2.trans (b12.mono HI.out.2.size))
      have HNx := Lib.hid (And.intro (HI.out.1.below b12) (HI.out.2.trans (b12.mono HI.out.2.size)))
      obtain ⟨X1, f, hX1, hf, hF⟩ := classOf (fun x => (x.cell? ⟨b, o + k * 2, none⟩ = some (.int .u64 m) ∧ x.cell? ⟨b, o + k * 2 + 1, none⟩ = some (.int .u64 q)) ∧ x.cell? ⟨w.heap.size, 0, none⟩ = some (.int .u64 ms) ∧ x.cell? ⟨w.heap.size, 1, none⟩ = some (.int .u64 seq)) (w := w12) ⟨⟨e0, e1⟩, c0, c1⟩
      have f1 := fun x => (hf x).1.1
      have f2 := fun x => (hf x).1.2
      have f3 := fun x => (hf x).2.1
      have f4 := fun x => (hf x).2.2
      have HF := Lib.hid (hF w12.drew ⟨⟨e0, e1⟩, c0, c1⟩)
      clear hF hf b12 d0 d1
      have ei1 : ((m : Int) == (ms : Int)) = b1 := by rw [← hb1, Bool.eq_iff_iff]; simp; omega
      have ei2 : ((q : Int) == (seq : Int)) = b2 := by rw [← hb2, Bool.eq_iff_iff]; simp; omega
      cases b1 <;> cases b2
      all_goals
        go_upto_region 18 with (fail)
        refine wp_region_text ⟨[], [], 8⟩ (fun w' => ∃ x : X1, w' = f x) (by kernel_rfl) (by kernel_rfl) HF.out ?_
        refine wpC_seg false (HF.out) 8 0 _ _ (by rfl) (by rfl) ?_
        simp only [List.take_succ_cons, List.take_zero, List.drop_succ_cons, List.drop_zero, Bool.false_eq_true, if_false, Nat.zero_add, Nat.reduceAdd]
        repeat (go_big_quiet_step (fail))
        refine wpQuiet_nil ?_
        refine wpC_nil ?_
        clear f1 f2 f3 f4 hX1 HF f
        go_wp2_with fail
        go_roundw
        case rel => exact ⟨k + 1, by omega, by go_num, Lib.hid ⟨HNx.out.1.chg (Chg.drew (fun _ => False) _) (fun _ _ => id), belowN HNx.out.2 1⟩⟩
        case measure => simp [intOf]; omega
    · obtain rfl : k = len := by omega
      have HE := Lib.hid (HB1.out.trans (hI.out.2.mono HB1.out.size))
      clear hI
      go_wp2_with fail
      go_ret
      exact ⟨rfl, HE.out⟩
end Go.Proofs.Ytbjpfnafhhbmaaa.Rad
