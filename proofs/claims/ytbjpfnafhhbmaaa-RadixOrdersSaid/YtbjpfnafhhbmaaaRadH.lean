/- radix: RadixOrders' walk. -/
import Derived.Test.YtbjpfnafhhbmaaaRadG
namespace Go.Proofs.Ytbjpfnafhhbmaaa.Rad
open Go.Proofs.Ytbjpfnafhhbmaaa
set_option linter.unusedVariables false
set_option linter.unusedSimpArgs false
open Go.RowKit RT
theorem IdRow.cells {w : World} {a : Option Addr} {len cap : Nat} {L : List (Nat × Nat)} (h : IdRow w a len cap L) {i : Nat} (hi : i < len) : ∃ b o, a = some ⟨b, o, none⟩ ∧ b < w.heap.size ∧ w.cell? ⟨b, o + i * 2, none⟩ = some (.int .u64 (L.getD i (0, 0)).1) ∧ w.cell? ⟨b, o + i * 2 + 1, none⟩ = some (.int .u64 (L.getD i (0, 0)).2) := by
  obtain ⟨h1, h2, h3, h4⟩ := h
  obtain ⟨b, o, e, hc⟩ := h4.resolve_left (by omega)
  exact ⟨b, o, e, World.block_lt_of_cell? w _ (hc i hi).1, (hc i hi).1, (hc i hi).2⟩
theorem rise_at {A : List (Nat × Nat)} (h : A.Pairwise fun a b => lessN a b = true) {i j : Nat} (hij : i < j) (hj : j < A.length) : lessN (A.getD i (0, 0)) (A.getD j (0, 0)) = true := by
  have h1 := List.pairwise_iff_getElem.1 h i j (by omega) hj hij
  have e1 : A.getD i (0, 0) = A[i]'(by omega) := by simp [List.getD, show i < A.length by omega]
  have e2 : A.getD j (0, 0) = A[j] := by simp [List.getD, hj]
  rw [e1, e2]; exact h1
theorem filter_succ {A : List (Nat × Nat)} {q : Nat × Nat → Bool} {i : Nat} {x : Nat × Nat} (h : i < A.length) (hx : A.getD i (0, 0) = x) : ((A.take (i + 1)).filter q).length = ((A.take i).filter q).length + if q x then 1 else 0 := by
  have e : A[i] = x := by rw [← hx]; simp [List.getD, h]
  rw [List.take_succ_eq_append_getElem h, List.filter_append, e]
  by_cases hq : q x = true <;> simp [hq]
theorem filter_at' {A : List (Nat × Nat)} {q : Nat × Nat → Bool} {i : Nat} {x : Nat × Nat} (h : i < A.length) (hx : A.getD i (0, 0) = x) (hq : q x = true) : ((A.take i).filter q).length < (A.filter q).length ∧ (A.filter q).getD ((A.take i).filter q).length (0, 0) = x := by
  have e : A[i] = x := by rw [← hx]; simp [List.getD, h]
  rw [← e] at hq ⊢
  exact filter_at h hq
set_option maxHeartbeats 12800000 in
set_option maxRecDepth 100000 in
theorem orders_any {w : World} {a : Option Addr} {len cap : Nat} {L : List (Nat × Nat)} (hr : IdRow w a len cap L) (hlen : len ≤ 300) {ms seq : Nat} (h1 : ms < 18446744073709551616) (h2 : seq < 18446744073709551616) :
    Calls Try.prog 4 #[.slice a len cap, .agg #[.int .u64 ms, .int .u64 seq]] w fun e w' => e = .returned (.bool true) ∧ Below w.heap.size w w' := by
  obtain ⟨T, hT⟩ : ∃ T, fillK L len = T := ⟨_, rfl⟩
  obtain ⟨U, hU⟩ : ∃ U, fillK L.reverse len = U := ⟨_, rfl⟩
  have hwf : WFO T := by rw [← hT]; exact fillK_wf L len
  have hwfU : WFO U := by rw [← hU]; exact fillK_wf L.reverse len
  have hkeys := keys_same hwf hwfU (by rw [← hT, ← hU]; exact turned_same hr.1)
  have hnodes := nodes_keys hwf hwfU (by rw [← hT, ← hU]; exact turned_same hr.1)
  have hids : idsO U = idsO T := by unfold idsO; rw [hkeys]
  obtain ⟨A, hA⟩ : ∃ A, idsO T = A := ⟨_, rfl⟩
  obtain ⟨C, hC⟩ : ∃ C, (A.filter fun x => !lessN x (ms, seq)) = C := ⟨_, rfl⟩
  obtain ⟨w1, hw1⟩ : ∃ w1, w1 = w.alloc (.cells #[.int .u64 ms, .int .u64 seq] 25) := ⟨_, rfl⟩
  have hb1 : Below w.heap.size w w1 := by rw [hw1]; exact (Below.refl _ _).alloc (Nat.le_refl _) _
  have hr1 := hr.below hb1
  have hh1 : w1.heap[w.heap.size]? = some (.cells #[.int .u64 ms, .int .u64 seq] 25 (0, 0)) := by rw [hw1]; exact heap_new _ _
  have hlt1 := heap_lt hh1
  obtain ⟨n, hn⟩ : ∃ n, (itemsO T).length = n := ⟨_, rfl⟩
  have hnA : A.length = n := by rw [← hA, ← hn]; simp [idsO]
  have hnlen : n ≤ len := by rw [← hn, ← hT]; exact fillK_len L len
  obtain ⟨N, hN⟩ : ∃ N, nodesO T = N := ⟨_, rfl⟩
  have hNn := nodesO_le hwf
  rw [hn, hN] at hNn
  have hNb : N ≤ 600 := by omega
  have hN0 : n = 0 → N = 0 := fun h => by omega
  have hN1 : 0 < n → N < 2 * n := fun h => by
    have := hNn.2.2 (fun e => by rw [e] at hn; simp [itemsO] at hn; omega)
    omega
  have hN2 := hNn.2.1
  have hCl : C.length ≤ n := by rw [← hC, ← hnA]; exact List.length_filter_le _ _
  have HC := Lib.hid (show ∀ w', Below w1.heap.size w1 w' → w'.cell? ⟨w.heap.size, 0, none⟩ = some (.int .u64 ms) ∧ w'.cell? ⟨w.heap.size, 1, none⟩ = some (.int .u64 seq) from fun w' hb =>
    ⟨cell_in ((hb.block _ hlt1).trans hh1) rfl, cell_in ((hb.block _ hlt1).trans hh1) rfl⟩)
  have HAl := Lib.hid (alive_any w1)
  have HFi := Lib.hid (fun w' (hb : Below w1.heap.size w1 w') => filled_any (hr1.below hb) (show len ≤ 1000 by omega))
  rw [hT] at HFi
  have HW1 := Lib.hid hw1
  have HB1 := Lib.hid hb1
  have HR1 := Lib.hid hr1
  have HWf := Lib.hid (And.intro hwf (And.intro hwfU (And.intro hn (And.intro hN (And.intro hT (And.intro hU (And.intro hA (And.intro hC (And.intro hids hnodes)))))))))
  have HLt := Lib.hid (And.intro h1 (And.intro h2 (And.intro hnA hkeys)))
  have hcap := hr.2.1
  have HLr := Lib.hid hr.1
  clear hr hr1 hwf hwfU hT hU hn hN hw1 hb1 hh1 h1 h2 hA hC hids hnodes hkeys hNn hnA
  go_enter Try.func4, Try.ntmps4
  go_wp2_with fail
  rw [← HW1.out]
  refine HAl.out.mono ?_
  rintro e w2 ⟨rfl, b2⟩
  have HB2 := Lib.hid b2
  have HF := Lib.hid (HFi.out w2 b2)
  clear b2
  go_wp2_with fail
  refine HF.out.mono ?_
  rintro e w3 ⟨p, G, rfl, t3, b3, k3⟩
  have hB3 := HB2.out.trans (b3.mono HB2.out.size)
  rw [HWf.out.2.2.1] at t3
  have H3 := Lib.hid (And.intro t3 (And.intro hB3 fun k (hk : G k) => Nat.le_trans HB2.out.size (k3 k hk)))
  clear t3 b3 k3 hB3
  go_wp2_with fail
  go_loopw [6, 7] (fun tv i wr => ∃ (j : Nat) (a6 : Option Addr) (c6 : Nat), j ≤ len ∧ tv = .slice a6 j c6 ∧ i = .int .i64 ((len : Int) - 1 - j) ∧ Hid (SliceN wr w3.heap.size 25 2 (.slice a6 j c6) j ((L.reverse.take j).flatMap idc) ∧ Below w3.heap.size w3 wr)) (fun _ i _ => (intOf i + 1).toNat)
  case atStart => exact ⟨0, none, 0, Nat.zero_le _, rfl, by simp, Lib.hid ⟨SliceN.nil _ _ _ _, Below.refl _ _⟩⟩
  case round =>
    obtain ⟨j, a6, c6, hj, rfl, rfl, hI⟩ := hrel
    by_cases hlt : j < len
    · obtain ⟨b, o, rfl, hbw, c0, c1⟩ := (HR1.out.below (H3.out.2.1.trans (hI.out.2.mono H3.out.2.1.size))).cells (i := len - 1 - j) (by omega)
      obtain ⟨q, hq⟩ : ∃ q, len - 1 - j = q := ⟨_, rfl⟩
      have hql : q < len := by omega
      have eq1 : (len : Int) - 1 - j = (q : Int) := by omega
      rw [hq] at c0 c1
      obtain ⟨m, hm⟩ : ∃ m, (L.getD q (0, 0)).1 = m := ⟨_, rfl⟩
      obtain ⟨s, hs⟩ : ∃ s, (L.getD q (0, 0)).2 = s := ⟨_, rfl⟩
      rw [hm] at c0
      rw [hs] at c1
      obtain ⟨i0, g1, g2, g3, g4⟩ := info_parts info_id
      obtain ⟨v', W2, hrn, s2, c2, hv2⟩ := run_append_oneN (P := Try.prog) (t := 22) (ty := 22) (z := 2) (w := wr) Try.underlying22 g1 g2 g3 g4 rfl hI.out.1 hI.out.2.size [.int .u64 m, .int .u64 s] rfl (by simp [Value.oneCell']) (by unfold maxLen; omega) (by omega)
      obtain ⟨av', cv', rfl, _, _⟩ := s2.form
      have hsuc : (L.reverse.take (j + 1)).flatMap idc = (L.reverse.take j).flatMap idc ++ [.int .u64 m, .int .u64 s] := by
        have hjl : j < L.reverse.length := by have := HLr.out; simp; omega
        rw [List.take_succ_eq_append_getElem hjl, List.flatMap_append]
        have : L.reverse[j] = (m, s) := by
          have e : L.reverse[j] = L.getD q (0, 0) := by
            have h1 : L.reverse[j]? = L[q]? := by rw [List.getElem?_reverse (by have := HLr.out; omega), show L.length - 1 - j = q by have := HLr.out; omega]
            have h2 : L.reverse[j]? = some L.reverse[j] := List.getElem?_eq_getElem hjl
            rw [h2] at h1
            simp [List.getD, ← h1]
          rw [e, ← hm, ← hs]
        rw [this]; simp [idc]
      have HNx := Lib.hid (show SliceN W2 w3.heap.size 25 2 (.slice av' (j + 1) cv') (j + 1) ((L.reverse.take (j + 1)).flatMap idc) ∧ Below w3.heap.size w3 W2 from
        ⟨by rw [hsuc]; exact s2, belowChg hI.out.2 c2 hI.out.2.size fun k hk _ => (hI.out.1.block_lt hk).1⟩)
      have HR := Lib.hid hrn
      rw [eq1]
      clear hrn s2 c2 hv2 hsuc hm hs hI g1 g2 g3 g4
      go_wp2_with (at_builtin; refine wpList_append_run rfl rfl HR.out ?_)
      go_roundw
      case rel => exact ⟨j + 1, av', cv', by omega, rfl, by rw [show (len : Int) - 1 - ((j + 1 : Nat) : Int) = (q : Int) - 1 by omega], HNx⟩
      case measure => simp [intOf]
    · obtain rfl : len = j := by omega
      have em : (len : Int) - 1 - len = -1 := by omega
      rw [em]
      have hrow := row_of_slice hI.out.1 (by rw [List.length_take, List.length_reverse, HLr.out]; omega) (fun x hx => HR1.out.2.2.1 x (List.mem_reverse.1 (List.mem_of_mem_take hx)))
      rw [List.take_of_length_le (by rw [List.length_reverse, HLr.out]; exact Nat.le_refl _)] at hrow
      have HFu := Lib.hid (filled_any hrow (show len ≤ 1000 by omega))
      rw [HWf.out.2.2.2.2.2.1] at HFu
      have B4 := Lib.hid (H3.out.2.1.trans (hI.out.2.mono H3.out.2.1.size))
      have t4 := H3.out.1.below hI.out.2
      have H4 := Lib.hid t4
      clear hI hrow t4
      go_wp2_with fail
      refine HFu.out.mono ?_
      rintro e w5 ⟨pu, Gu, rfl, tu, b5, ku⟩
      have B5 := B4.out.trans (b5.mono B4.out.size)
      have t5 := H4.out.below b5
      have HT := Lib.hid (show ∀ w', Below w5.heap.size w5 w' → TreeF w' p G T n ∧ TreeF w' pu Gu U (itemsO U).length from fun w' hb => ⟨t5.below hb, tu.below hb⟩)
      have HB5 := Lib.hid B5
      have hNU : nodesO U = N := by rw [← HWf.out.2.2.2.1]; exact HWf.out.2.2.2.2.2.2.2.2.2.symm
      have HNU := Lib.hid hNU
      -- the three rows
      have H10 := Lib.hid (show ∀ w', Below w5.heap.size w5 w' → Calls Try.prog 12 #[.pointer (some ⟨p, 0, none⟩), .agg #[.int .u64 (0 : Nat), .int .u64 (0 : Nat)]] w' (fun e w'' => ∃ a c, e = .returned (.slice a n c) ∧ IdRow w'' a n c A ∧ Below w'.heap.size w' w'') from fun w' hb => by
        refine (all_ids (HT.out w' hb).1 (by omega) (by omega) (by rw [HWf.out.2.2.2.1]; omega)).mono ?_
        rintro e w'' ⟨a, k, c, rfl, hk, hrow, hbb⟩
        rw [ids_zero, HWf.out.2.2.2.2.2.2.1] at hk hrow
        rw [HLt.out.2.2.1] at hk
        subst hk
        exact ⟨a, c, rfl, hrow, hbb⟩)
      have H11 := Lib.hid (show ∀ w', Below w5.heap.size w5 w' → Calls Try.prog 12 #[.pointer (some ⟨pu, 0, none⟩), .agg #[.int .u64 (0 : Nat), .int .u64 (0 : Nat)]] w' (fun e w'' => ∃ a c, e = .returned (.slice a n c) ∧ IdRow w'' a n c A ∧ Below w'.heap.size w' w'') from fun w' hb => by
        refine (all_ids (HT.out w' hb).2 (by omega) (by omega) (by rw [HNU.out]; omega)).mono ?_
        rintro e w'' ⟨a, k, c, rfl, hk, hrow, hbb⟩
        rw [ids_zero, HWf.out.2.2.2.2.2.2.2.2.1, HWf.out.2.2.2.2.2.2.1] at hk hrow
        rw [HLt.out.2.2.1] at hk
        subst hk
        exact ⟨a, c, rfl, hrow, hbb⟩)
      have H12 := Lib.hid (show ∀ w', Below w5.heap.size w5 w' → Calls Try.prog 12 #[.pointer (some ⟨p, 0, none⟩), .agg #[.int .u64 ms, .int .u64 seq]] w' (fun e w'' => ∃ a c, e = .returned (.slice a C.length c) ∧ IdRow w'' a C.length c C ∧ Below w'.heap.size w' w'') from fun w' hb => by
        refine (all_ids (HT.out w' hb).1 HLt.out.1 HLt.out.2.1 (by rw [HWf.out.2.2.2.1]; omega)).mono ?_
        rintro e w'' ⟨a, k, c, rfl, hk, hrow, hbb⟩
        rw [HWf.out.2.2.2.2.2.2.1, HWf.out.2.2.2.2.2.2.2.1] at hk hrow
        subst hk
        exact ⟨a, c, rfl, hrow, hbb⟩)
      obtain ⟨nc, hnc⟩ : ∃ nc, C.length = nc := ⟨_, rfl⟩
      rw [hnc] at H12 hCl
      have HNc := Lib.hid hnc
      obtain ⟨c0, c1⟩ := HC.out w5 B5
      obtain ⟨X1, f, hX1, hf, hF⟩ := classOf (fun x => x.cell? ⟨w.heap.size, 0, none⟩ = some (.int .u64 ms) ∧ x.cell? ⟨w.heap.size, 1, none⟩ = some (.int .u64 seq)) (w := w5) ⟨c0, c1⟩
      have f1 := fun x => (hf x).1
      have f2 := fun x => (hf x).2
      have HF1 := Lib.hid hF
      have HFa := Lib.hid (hF w5.drew ⟨c0, c1⟩)
      clear hF hf t5 tu ku b5 B5 hNU hnc c0 c1
      go_wp2_with fail
      refine wp_region_text ⟨[2, 5, 8], [9, 10, 11], 8⟩ (fun w' => ∃ x : X1, w' = f x) (by kernel_rfl) (by kernel_rfl) HFa.out ?_
      refine wpC_seg false (HFa.out) 2 0 _ _ (by rfl) (by rfl) ?_
      simp only [List.take_succ_cons, List.take_zero, List.drop_succ_cons, List.drop_zero, Bool.false_eq_true, if_false, Nat.zero_add, Nat.reduceAdd]
      repeat (go_big_quiet_step (fail))
      refine wpQuiet_nil ?_
      refine wpC_loud (by rfl) (by rfl) fun K hK => ?_
      go_wp2_with fail
      refine (H10.out _ (belowN (Below.refl _ _) 1)).mono ?_
      rintro e w6 ⟨aa, ca, rfl, ra, b6⟩
      have b56 := (belowN (Below.refl w5.heap.size w5) 1).trans b6
      have HF6 := Lib.hid (HF1.out w6 (HC.out w6 (HB5.out.trans (b56.mono HB5.out.size))))
      refine hK _ _ (fun _ => HF6.out) ?_
      clear hK
      refine wpC_seg false (HF6.out) 2 3 _ _ (by rfl) (by rfl) ?_
      simp only [List.take_succ_cons, List.take_zero, List.drop_succ_cons, List.drop_zero, Bool.false_eq_true, if_false, Nat.zero_add, Nat.reduceAdd]
      repeat (go_big_quiet_step (fail))
      refine wpQuiet_nil ?_
      refine wpC_loud (by rfl) (by rfl) fun K hK => ?_
      go_wp2_with fail
      refine (H11.out _ b56).mono ?_
      rintro e w7 ⟨ab, cb, rfl, rb, b7⟩
      have b57 := b56.trans (b7.mono b56.size)
      have HF7 := Lib.hid (HF1.out w7 (HC.out w7 (HB5.out.trans (b57.mono HB5.out.size))))
      refine hK _ _ (fun _ => HF7.out) ?_
      clear hK
      refine wpC_seg false (HF7.out) 2 6 _ _ (by rfl) (by rfl) ?_
      simp only [List.take_succ_cons, List.take_zero, List.drop_succ_cons, List.drop_zero, Bool.false_eq_true, if_false, Nat.zero_add, Nat.reduceAdd]
      repeat (go_big_quiet_step (fail))
      refine wpQuiet_nil ?_
      refine wpC_loud (by rfl) (by rfl) fun K hK => ?_
      go_wp2_with fail
      refine (H12.out _ b57).mono ?_
      rintro e w8 ⟨ac, cc, rfl, rc, b8⟩
      refine hK _ _ (fun h => absurd h (by decide)) ?_
      clear hK
      refine wpC_segD 3 9 _ _ (by rfl) (by rfl) ?_
      simp only [List.take_succ_cons, List.take_zero, List.drop_succ_cons, List.drop_zero, if_true, Nat.zero_add, Nat.reduceAdd]
      repeat (go_big_quiet_step (fail))
      refine wpQuiet_nil ?_
      refine wpC_nil ?_
      clear f1 f2 hX1 HF1 HFa HF6 HF7 f H10 H11 H12
      have b58 := b57.trans (b8.mono b57.size)
      have HRa := Lib.hid ((ra.below b7).below b8)
      have HRb := Lib.hid (rb.below b8)
      have HRc := Lib.hid rc
      have HB8 := Lib.hid b58
      have HLn := Lib.hid (fun w' (hb : Below w5.heap.size w5 w') => TreeF.len (HT.out w' hb).1)
      have HNt := Lib.hid (show ∀ w', Below w5.heap.size w5 w' → Calls Try.prog 7 #[.pointer (some ⟨p, 0, none⟩)] w' (fun e w'' => e = .returned (.int .i64 N) ∧ Below w'.heap.size w' w'') from fun w' hb => by
        have := radNodes (HT.out w' hb).1 (by rw [HWf.out.2.2.2.1]; omega)
        rw [HWf.out.2.2.2.1] at this
        exact this)
      have HNu := Lib.hid (show ∀ w', Below w5.heap.size w5 w' → Calls Try.prog 7 #[.pointer (some ⟨pu, 0, none⟩)] w' (fun e w'' => e = .returned (.int .i64 N) ∧ Below w'.heap.size w' w'') from fun w' hb => by
        have := radNodes (HT.out w' hb).2 (by rw [HNU.out]; omega)
        rw [HNU.out] at this
        exact this)
      clear ra rb rc b6 b7 b8 b56 b57 b58
      go_wp2_with fail
      refine (HLn.out w8 HB8.out).mono ?_
      rintro e w' ⟨rfl, rfl⟩
      go_wp2_with fail
      refine (HNt.out w8 HB8.out).mono ?_
      rintro e w9 ⟨rfl, b9⟩
      have HB9 := Lib.hid (HB8.out.trans (b9.mono HB8.out.size))
      have HBa := Lib.hid b9
      clear b9
      go_wp2_with fail
      refine (HNu.out w9 HB9.out).mono ?_
      rintro e w10 ⟨rfl, b10⟩
      have HB10 := Lib.hid (HB9.out.trans (b10.mono HB9.out.size))
      have HBb := Lib.hid (HBa.out.trans (b10.mono HBa.out.size))
      clear b10 HBa
      rcases Nat.eq_zero_or_pos n with hn0 | hn0
      · have hlen0 : len ≤ 0 := by
          rcases Nat.eq_zero_or_pos len with h | h
          · omega
          · exfalso
            have h1 := (fillK_some L (idBytes (L.getD 0 (0, 0)).1 (L.getD 0 (0, 0)).2) (idBytes_length _ _) len).2 ⟨0, h, rfl⟩
            rw [HWf.out.2.2.2.2.1] at h1
            have h2 := (mem_keys HWf.out.1 (idBytes (L.getD 0 (0, 0)).1 (L.getD 0 (0, 0)).2)).2 ⟨idBytes_length _ _, fun e => by rw [e] at h1; cases h1⟩
            have h3 := HWf.out.2.2.1
            have h4 := List.length_pos_of_mem h2
            rw [List.length_map] at h4
            omega
        have hN00 := hN0 hn0
        have eN1 : decide (0 < (n : Int)) = false := by simp; omega
        have eN2 : ((n : Int) == 0) = true := by simp; omega
        have eN3 : ((N : Int) == 0) = true := by simp; omega
        clear hN00
        go_wp2_with fail
        refine (HNt.out w10 HB10.out).mono ?_
        rintro e w13 ⟨rfl, b13⟩
        have HB13 := Lib.hid (HB10.out.trans (b13.mono HB10.out.size))
        have HBc := Lib.hid (HBb.out.trans (b13.mono HBb.out.size))
        clear b13 HBb
        go_wp2_with fail
        have hn00 : n ≤ 0 := by omega
        have hncc : ((0 : Int) == (nc : Int)) = true := by simp; omega
        clear eN1 eN2 eN3 hN0 hN1 hn0 HNt HNu HLn HRa HRb HRc
        have HBw := Lib.hid (HB5.out.trans (HB13.out.mono HB5.out.size))
        go_loopw [12, 13] (fun nv i wr => nv = .int .i64 0 ∧ i = .int .i64 0 ∧ ∃ d, wr = w13.drewN d) (fun _ _ _ => 0)
        case atStart => exact ⟨rfl, rfl, 0, rfl⟩
        case round =>
          obtain ⟨rfl, rfl, d, rfl⟩ := hrel
          have hlt0 : decide (0 < (n : Int)) = false := by simp; omega
          go_wp2_with fail
          go_loopw [14] (fun i wr => i = .int .i64 0 ∧ ∃ d, wr = w13.drewN d) (fun _ _ => 0)
          case atStart => exact ⟨rfl, _, rfl⟩
          case round =>
            obtain ⟨rfl, d, rfl⟩ := hrel
            have hlt1 : decide (0 < (len : Int)) = false := by simp; omega
            go_wp2_with fail
            go_ret
            exact ⟨rfl, HB1.out.trans ((belowN HBw.out d).mono HB1.out.size)⟩
      · skip
        have hNl := hN1 hn0
        have eN1 : decide (2 * (n : Int) ≤ (N : Int)) = false := by simp; omega
        have eN2 : decide (N < n) = false := by simp; omega
        have eN3 : ((n : Int) == 0) = false := by simp; omega
        go_wp2_with fail
        refine (HNt.out w10 HB10.out).mono ?_
        rintro e w11 ⟨rfl, b11⟩
        have HB11 := Lib.hid (HB10.out.trans (b11.mono HB10.out.size))
        have HBb1 := Lib.hid (HBb.out.trans (b11.mono HBb.out.size))
        clear b11 HBb
        go_wp2_with fail
        refine (HNt.out w11 HB11.out).mono ?_
        rintro e w13 ⟨rfl, b13⟩
        have HB13 := Lib.hid (HB11.out.trans (b13.mono HB11.out.size))
        have HBc := Lib.hid (HBb1.out.trans (b13.mono HBb1.out.size))
        clear b13 HBb1
        go_wp2_with fail
        have HRa13 := Lib.hid (HRa.out.below HBc.out)
        have HRb13 := Lib.hid (HRb.out.below HBc.out)
        have HRc13 := Lib.hid (HRc.out.below HBc.out)
        have hHB13 := HB5.out.trans (HB13.out.mono HB5.out.size)
        have HBw := Lib.hid hHB13
        clear hHB13 HRa HRb HRc HBc eN1 eN2 eN3 hN0 hN1 hn0 HNt HNu HLn
        go_loopw [12, 13] (fun nv i wr => ∃ (i' nn : Nat), i' ≤ n ∧ nn ≤ nc ∧ nv = .int .i64 nn ∧ i = .int .i64 i' ∧ Hid (nn = ((A.take i').filter fun x => !lessN x (ms, seq)).length) ∧ Hid (Below w13.heap.size w13 wr)) (fun _ i _ => n - (intOf i).toNat)
        case atStart => exact ⟨0, 0, Nat.zero_le _, Nat.zero_le _, rfl, rfl, Lib.hid (by simp), Lib.hid (Below.refl _ _)⟩
        case round =>
          obtain ⟨i, nn, hi, hnn, rfl, rfl, hF, hB⟩ := hrel
          by_cases hlt : i < n
          · obtain ⟨ba, oa, rfl, hba, p0, p1⟩ := (HRa13.out.below hB.out).cells hlt
            obtain ⟨bb, ob, rfl, hbb, q0, q1⟩ := (HRb13.out.below hB.out).cells hlt
            have hiA : i < A.length := by rw [HLt.out.2.2.1]; exact hlt
            obtain ⟨xm, hxm⟩ : ∃ xm, (A.getD i (0, 0)).1 = xm := ⟨_, rfl⟩
            obtain ⟨xs, hxs⟩ : ∃ xs, (A.getD i (0, 0)).2 = xs := ⟨_, rfl⟩
            have hAi : A.getD i (0, 0) = (xm, xs) := by rw [← hxm, ← hxs]
            rw [hxm] at p0 q0
            rw [hxs] at p1 q1
            have hBi := HB13.out
            have hBB := HBw.out.trans (hB.out.mono HBw.out.size)
            obtain ⟨c0, c1⟩ := HC.out wr hBB
            have HCl := Lib.hid (show ∀ w', Below wr.heap.size wr w' → (w'.cell? ⟨ba, oa + i * 2, none⟩ = some (.int .u64 xm) ∧ w'.cell? ⟨ba, oa + i * 2 + 1, none⟩ = some (.int .u64 xs)) ∧ w'.cell? ⟨w.heap.size, 0, none⟩ = some (.int .u64 ms) ∧ w'.cell? ⟨w.heap.size, 1, none⟩ = some (.int .u64 seq) from fun w' hb =>
              ⟨⟨(hb.cell (p := ⟨ba, oa + i * 2, none⟩) hba).trans p0, (hb.cell (p := ⟨ba, oa + i * 2 + 1, none⟩) hba).trans p1⟩, HC.out w' (hBB.trans (hb.mono hBB.size))⟩)
            have HX := Lib.hid (And.intro hAi hiA)
            clear hxm hxs hAi hiA hBi hBB
            rcases Nat.eq_zero_or_pos i with hi0 | hi0
            case' inl =>
              have ei0 : decide (0 < i) = false := by simp; omega
              obtain ⟨X1, f, hX1, hf, hF2⟩ := classOf (fun x => (x.cell? ⟨ba, oa + i * 2, none⟩ = some (.int .u64 xm) ∧ x.cell? ⟨ba, oa + i * 2 + 1, none⟩ = some (.int .u64 xs)) ∧ x.cell? ⟨bb, ob + i * 2, none⟩ = some (.int .u64 xm) ∧ x.cell? ⟨bb, ob + i * 2 + 1, none⟩ = some (.int .u64 xs)) (w := wr) ⟨⟨p0, p1⟩, q0, q1⟩
              have f1 := fun x => (hf x).1.1
              have f2 := fun x => (hf x).1.2
              have f3 := fun x => (hf x).2.1
              have f4 := fun x => (hf x).2.2
              have HFx := Lib.hid (hF2 wr.drew ⟨⟨p0, p1⟩, q0, q1⟩)
              clear hF2 hf hi0
              go_upto_region 17 with (fail)
              refine wp_region_text ⟨[22], [23, 24, 25], 22⟩ (fun w' => ∃ x : X1, w' = f x) (by kernel_rfl) (by kernel_rfl) HFx.out ?_
              refine wpC_seg false (HFx.out) 22 0 _ _ (by rfl) (by rfl) ?_
              simp only [List.take_succ_cons, List.take_zero, List.drop_succ_cons, List.drop_zero, Bool.false_eq_true, if_false, Nat.zero_add, Nat.reduceAdd]
              repeat (go_big_quiet_step (fail))
              refine wpQuiet_nil ?_
              refine wpC_skip (by rfl) (by rfl) (fun h => absurd h (by decide)) ?_
              simp only [Act.put, List.setIfInBounds_toArray, List.set_cons_succ, List.set_cons_zero]
              refine wpC_segD 3 23 _ _ (by rfl) (by rfl) ?_
              simp only [List.take_succ_cons, List.take_zero, List.drop_succ_cons, List.drop_zero, if_true, Nat.zero_add, Nat.reduceAdd]
              repeat (go_big_quiet_step (fail))
              refine wpQuiet_nil ?_
              refine wpC_nil ?_
              clear f1 f2 f3 f4 hX1 HFx f
              obtain ⟨w14, hw14⟩ : ∃ w14, w14 = wr.drew := ⟨_, rfl⟩
              have HB14 := Lib.hid (show Below wr.heap.size wr w14 by rw [hw14]; exact belowN (Below.refl _ _) 1)
              rw [← hw14]
              clear hw14 ei0
            case' inr =>
              have ei0 : decide (0 < i) = true := by simp; omega
              obtain ⟨i', hi'⟩ : ∃ i', i' + 1 = i := ⟨i - 1, by omega⟩
              have hsub : (i : Int) - 1 = (i' : Int) := by omega
              have hi'n : i' < n := by omega
              obtain ⟨ba', oa', he, _, r0, r1⟩ := (HRa13.out.below hB.out).cells hi'n
              cases he
              obtain ⟨ym, hym⟩ : ∃ ym, (A.getD i' (0, 0)).1 = ym := ⟨_, rfl⟩
              obtain ⟨ys, hys⟩ : ∃ ys, (A.getD i' (0, 0)).2 = ys := ⟨_, rfl⟩
              have hlessT : lessN (ym, ys) (xm, xs) = true := by
                have h1 := HX.out.1
                have h2 := HX.out.2
                have hA := HWf.out.2.2.2.2.2.2.1
                have h3 := rise_at (idsO_rise HWf.out.1) (i := i') (j := i) (by omega) (by rw [hA]; exact h2)
                rw [hA, h1, show A.getD i' (0, 0) = (ym, ys) by rw [← hym, ← hys]] at h3
                exact h3
              rw [hym] at r0
              rw [hys] at r1
              have HLs := Lib.hid (less_any ym ys xm xs)
              rw [hlessT] at HLs
              obtain ⟨X1, f, hX1, hf, hF2⟩ := classOf (fun x => ((x.cell? ⟨ba, oa + i * 2, none⟩ = some (.int .u64 xm) ∧ x.cell? ⟨ba, oa + i * 2 + 1, none⟩ = some (.int .u64 xs)) ∧ x.cell? ⟨bb, ob + i * 2, none⟩ = some (.int .u64 xm) ∧ x.cell? ⟨bb, ob + i * 2 + 1, none⟩ = some (.int .u64 xs)) ∧ x.cell? ⟨ba, oa + i' * 2, none⟩ = some (.int .u64 ym) ∧ x.cell? ⟨ba, oa + i' * 2 + 1, none⟩ = some (.int .u64 ys)) (w := wr) ⟨⟨⟨p0, p1⟩, q0, q1⟩, r0, r1⟩
              have f1 := fun x => (hf x).1.1.1
              have f2 := fun x => (hf x).1.1.2
              have f3 := fun x => (hf x).1.2.1
              have f4 := fun x => (hf x).1.2.2
              have f5 := fun x => (hf x).2.1
              have f6 := fun x => (hf x).2.2
              have HFx := Lib.hid (hF2 wr.drew ⟨⟨⟨p0, p1⟩, q0, q1⟩, r0, r1⟩)
              clear hF2 hf hi0 hym hys hlessT r0 r1 hi'
              go_upto_region 17 with (fail)
              refine wp_region_text ⟨[22], [23, 24, 25], 22⟩ (fun w' => ∃ x : X1, w' = f x) (by kernel_rfl) (by kernel_rfl) HFx.out ?_
              refine wpC_seg false (HFx.out) 22 0 _ _ (by rfl) (by rfl) ?_
              simp only [List.take_succ_cons, List.take_zero, List.drop_succ_cons, List.drop_zero, Bool.false_eq_true, if_false, Nat.zero_add, Nat.reduceAdd]
              repeat (go_big_quiet_step (fail))
              refine wpQuiet_nil ?_
              refine wpC_loud (by rfl) (by rfl) fun K hK => ?_
              go_wp2_with fail
              refine (HLs.out _).mono ?_
              rintro e w14 ⟨rfl, b14⟩
              refine hK _ _ (fun h => absurd h (by decide)) ?_
              clear hK
              refine wpC_segD 3 23 _ _ (by rfl) (by rfl) ?_
              simp only [List.take_succ_cons, List.take_zero, List.drop_succ_cons, List.drop_zero, if_true, Nat.zero_add, Nat.reduceAdd]
              repeat (go_big_quiet_step (fail))
              refine wpQuiet_nil ?_
              refine wpC_nil ?_
              clear f1 f2 f3 f4 f5 f6 hX1 HFx f ei0 HLs hsub hi'n
              have HB14 := Lib.hid (show Below wr.heap.size wr w14 from (belowN (Below.refl _ _) 1).trans b14)
              clear b14
            all_goals
              clear p0 p1 q0 q1 hbb
              obtain ⟨c0, c1⟩ := (HCl.out w14 HB14.out).2
              go_upto_region 19 with (fail)
              obtain ⟨X1, f, hX1, hf, hF2⟩ := classOf (fun x => (x.cell? ⟨ba, oa + i * 2, none⟩ = some (.int .u64 xm) ∧ x.cell? ⟨ba, oa + i * 2 + 1, none⟩ = some (.int .u64 xs)) ∧ x.cell? ⟨w.heap.size, 0, none⟩ = some (.int .u64 ms) ∧ x.cell? ⟨w.heap.size, 1, none⟩ = some (.int .u64 seq)) (w := w14) (HCl.out w14 HB14.out)
              have f1 := fun x => (hf x).1.1
              have f2 := fun x => (hf x).1.2
              have f3 := fun x => (hf x).2.1
              have f4 := fun x => (hf x).2.2
              have HFx := Lib.hid (hF2 w14.drew (HCl.out w14 HB14.out))
              clear hF2 hf c0 c1
              have HLs := Lib.hid (less_any xm xs ms seq)
              obtain ⟨v, hv⟩ : ∃ v, lessN (xm, xs) (ms, seq) = v := ⟨_, rfl⟩
              rw [hv] at HLs
              have HV := Lib.hid hv
              clear hv
              refine wp_region_text ⟨[5], [6], 5⟩ (fun w' => ∃ x : X1, w' = f x) (by kernel_rfl) (by kernel_rfl) HFx.out ?_
              refine wpC_seg false (HFx.out) 5 0 _ _ (by rfl) (by rfl) ?_
              simp only [List.take_succ_cons, List.take_zero, List.drop_succ_cons, List.drop_zero, Bool.false_eq_true, if_false, Nat.zero_add, Nat.reduceAdd]
              repeat (go_big_quiet_step (fail))
              refine wpQuiet_nil ?_
              refine wpC_loud (by rfl) (by rfl) fun K hK => ?_
              go_wp2_with fail
              refine (HLs.out _).mono ?_
              rintro e w15 ⟨rfl, b15⟩
              refine hK _ _ (fun h => absurd h (by decide)) ?_
              clear hK
              have HB15 := Lib.hid (HB14.out.trans (((belowN (Below.refl _ _) 1).trans b15).mono HB14.out.size))
              clear f1 f2 f3 f4 hX1 HFx HLs b15
              refine wpC_segD 1 6 _ _ (by rfl) (by rfl) ?_
              simp only [List.take_succ_cons, List.take_zero, List.drop_succ_cons, List.drop_zero, if_true, Nat.zero_add, Nat.reduceAdd]
              repeat (go_big_quiet_step (fail))
              refine wpQuiet_nil ?_
              refine wpC_nil ?_
              have HS := Lib.hid (filter_succ (q := fun x => !lessN x (ms, seq)) HX.out.2 HX.out.1)
              cases v
              case' true =>
                have hF' : nn = ((A.take (i + 1)).filter fun x => !lessN x (ms, seq)).length := by
                  rw [HS.out, ← hF.out, HV.out]; simp
                have HF' := Lib.hid hF'
                clear hF'
                go_wp2_with fail
                go_roundw
                case rel => exact ⟨i + 1, nn, by omega, hnn, rfl, by simp, HF', Lib.hid (hB.out.trans (HB15.out.mono hB.out.size))⟩
                case measure => simp [intOf]; omega
              case' false =>
                obtain ⟨hl1, hl2⟩ := filter_at' (q := fun x => !lessN x (ms, seq)) HX.out.2 HX.out.1 (by rw [HV.out]; rfl)
                rw [← hF.out, HWf.out.2.2.2.2.2.2.2.1] at hl1 hl2
                rw [HNc.out] at hl1
                have hF' : nn + 1 = ((A.take (i + 1)).filter fun x => !lessN x (ms, seq)).length := by
                  rw [HS.out, ← hF.out, HV.out]; simp
                have HF' := Lib.hid hF'
                clear hF' HS HV HX
                obtain ⟨bc, oc, hac, hbc, d0, d1⟩ := (HRc13.out.below (hB.out.trans (HB15.out.mono hB.out.size))).cells hl1
                subst hac
                rw [hl2] at d0 d1
                obtain ⟨p0, p1⟩ := (HCl.out w15 HB15.out).1
                obtain ⟨X1, f, hX1, hf, hF2⟩ := classOf (fun x => (x.cell? ⟨ba, oa + i * 2, none⟩ = some (.int .u64 xm) ∧ x.cell? ⟨ba, oa + i * 2 + 1, none⟩ = some (.int .u64 xs)) ∧ x.cell? ⟨bc, oc + nn * 2, none⟩ = some (.int .u64 xm) ∧ x.cell? ⟨bc, oc + nn * 2 + 1, none⟩ = some (.int .u64 xs)) (w := w15) ⟨⟨p0, p1⟩, d0, d1⟩
                have f1 := fun x => (hf x).1.1
                have f2 := fun x => (hf x).1.2
                have f3 := fun x => (hf x).2.1
                have f4 := fun x => (hf x).2.2
                have HFx := Lib.hid (hF2 w15.drew ⟨⟨p0, p1⟩, d0, d1⟩)
                have eg : decide (nc ≤ nn) = false := by simp; omega
                clear hF2 hf p0 p1 d0 d1 hl2
                go_upto_region 20 with (fail)
                refine wp_region_text ⟨[], [], 15⟩ (fun w' => ∃ x : X1, w' = f x) (by kernel_rfl) (by kernel_rfl) HFx.out ?_
                refine wpC_seg false (HFx.out) 15 0 _ _ (by rfl) (by rfl) ?_
                simp only [List.take_succ_cons, List.take_zero, List.drop_succ_cons, List.drop_zero, Bool.false_eq_true, if_false, Nat.zero_add, Nat.reduceAdd]
                repeat (go_big_quiet_step (fail))
                refine wpQuiet_nil ?_
                refine wpC_nil ?_
                clear f1 f2 f3 f4 hX1 HFx f eg
                have HBz := Lib.hid (hB.out.trans ((HB15.out.trans (belowN (Below.refl _ _) 1)).mono hB.out.size))
                go_wp2_with fail
                go_roundw
                case rel => exact ⟨i + 1, nn + 1, by omega, by omega, by simp, by simp, HF', by first | exact HBz | exact Lib.hid (hB.out.trans ((HB15.out.trans (belowN (Below.refl _ _) 1)).mono hB.out.size))⟩
                case measure => simp [intOf]; omega
          · obtain rfl : n = i := by omega
            have hnn' : nc = nn := by
              have h := hF.out
              rw [List.take_of_length_le (by rw [HLt.out.2.2.1]; exact Nat.le_refl _), HWf.out.2.2.2.2.2.2.2.1, HNc.out] at h
              exact h.symm
            subst hnn'
            clear hF HRa13 HRb13 HRc13
            go_wp2_with fail
            go_loopw [14] (fun i wr => ∃ j : Nat, j ≤ len ∧ i = .int .i64 j ∧ Hid (Below w13.heap.size w13 wr)) (fun i _ => len - (intOf i).toNat)
            case atStart => exact ⟨0, Nat.zero_le _, rfl, Lib.hid hB.out⟩
            case round =>
              obtain ⟨j, hj, rfl, hI⟩ := hrel
              by_cases hlt : j < len
              · obtain ⟨b, o, rfl, _⟩ := (HR1.out.below (HBw.out.trans (hI.out.mono HBw.out.size))).cells hlt
                obtain ⟨m, hm⟩ : ∃ m, (L.getD j (0, 0)).1 = m := ⟨_, rfl⟩
                obtain ⟨q, hq⟩ : ∃ q, (L.getD j (0, 0)).2 = q := ⟨_, rfl⟩
                have HDj := Lib.hid (show ∀ w', Below w13.heap.size w13 w' → w'.cell? ⟨b, o + j * 2, none⟩ = some (.int .u64 m) ∧ w'.cell? ⟨b, o + j * 2 + 1, none⟩ = some (.int .u64 q) from fun w' hb => by
                  obtain ⟨b', o', he, _, h1, h2⟩ := (HR1.out.below (HBw.out.trans (hb.mono HBw.out.size))).cells hlt
                  cases he
                  rw [hm] at h1
                  rw [hq] at h2
                  exact ⟨h1, h2⟩)
                have hjv : L.getD j (0, 0) = (m, q) := by rw [← hm, ← hq]
                have hjb := HR1.out.2.2.1 (L.getD j (0, 0)) (by
                  have hLl := HLr.out
                  rw [show L.getD j (0, 0) = L[j]'(by omega) by simp [List.getD, show j < L.length by omega]]; exact List.getElem_mem _)
                rw [hjv] at hjb
                have HJ := Lib.hid (And.intro hjv hjb)
                clear hm hq hjv hjb
                go_wp2_with fail
                go_loopw [15, 16] (fun l k wr => ∃ (last k' : Nat), last ≤ k' ∧ k' ≤ len ∧ last < len ∧ l = .int .i64 last ∧ k = .int .i64 k' ∧ Hid (L.getD last (0, 0) = (m, q) ∧ ∀ z, last < z → z < k' → L.getD z (0, 0) ≠ (m, q)) ∧ Hid (Below w13.heap.size w13 wr)) (fun _ k _ => len - (intOf k).toNat)
                case atStart => exact ⟨j, j, Nat.le_refl _, hj, hlt, rfl, rfl, Lib.hid ⟨HJ.out.1, fun z h1 h2 => by omega⟩, Lib.hid hI.out⟩
                case round =>
                  obtain ⟨last, k, hlk, hk, hll, rfl, rfl, hM, hI2⟩ := hrel
                  by_cases hkl : k < len
                  · obtain ⟨b', o', he, _, e0, e1⟩ := (HR1.out.below (HBw.out.trans (hI2.out.mono HBw.out.size))).cells hkl
                    cases he
                    obtain ⟨d0, d1⟩ := HDj.out wr hI2.out
                    obtain ⟨km, hkm⟩ : ∃ km, (L.getD k (0, 0)).1 = km := ⟨_, rfl⟩
                    obtain ⟨ks, hks⟩ : ∃ ks, (L.getD k (0, 0)).2 = ks := ⟨_, rfl⟩
                    have hkv : L.getD k (0, 0) = (km, ks) := by rw [← hkm, ← hks]
                    rw [hkm] at e0
                    rw [hks] at e1
                    obtain ⟨b1, hb1⟩ : ∃ b1, decide (km = m) = b1 := ⟨_, rfl⟩
                    obtain ⟨b2, hb2⟩ : ∃ b2, decide (ks = q) = b2 := ⟨_, rfl⟩
                    have ei1 : ((km : Int) == (m : Int)) = b1 := by rw [← hb1, Bool.eq_iff_iff]; simp; omega
                    have ei2 : ((ks : Int) == (q : Int)) = b2 := by rw [← hb2, Bool.eq_iff_iff]; simp; omega
                    have HK := Lib.hid (And.intro hkv (And.intro hb1 hb2))
                    have HIn := Lib.hid (belowN hI2.out 1)
                    obtain ⟨X1, f, hX1, hf, hF⟩ := classOf (fun x => (x.cell? ⟨b, o + j * 2, none⟩ = some (.int .u64 m) ∧ x.cell? ⟨b, o + j * 2 + 1, none⟩ = some (.int .u64 q)) ∧ x.cell? ⟨b, o + k * 2, none⟩ = some (.int .u64 km) ∧ x.cell? ⟨b, o + k * 2 + 1, none⟩ = some (.int .u64 ks)) (w := wr) ⟨⟨d0, d1⟩, e0, e1⟩
                    have f1 := fun x => (hf x).1.1
                    have f2 := fun x => (hf x).1.2
                    have f3 := fun x => (hf x).2.1
                    have f4 := fun x => (hf x).2.2
                    have HF := Lib.hid (hF wr.drew ⟨⟨d0, d1⟩, e0, e1⟩)
                    clear hF hf d0 d1 e0 e1 hkm hks hkv hb1 hb2
                    cases b1 <;> cases b2
                    all_goals
                      go_upto_region 30 with (fail)
                      refine wp_region_text ⟨[], [], 9⟩ (fun w' => ∃ x : X1, w' = f x) (by kernel_rfl) (by kernel_rfl) HF.out ?_
                      refine wpC_seg false (HF.out) 9 0 _ _ (by rfl) (by rfl) ?_
                      simp only [List.take_succ_cons, List.take_zero, List.drop_succ_cons, List.drop_zero, Bool.false_eq_true, if_false, Nat.zero_add, Nat.reduceAdd]
                      repeat (go_big_quiet_step (fail))
                      refine wpQuiet_nil ?_
                      refine wpC_nil ?_
                      clear f1 f2 f3 f4 hX1 HF f ei1 ei2
                      go_wp2_with fail
                      go_roundw
                      case measure => simp [intOf]; omega
                      case rel =>
                        first
                        | exact ⟨k, k + 1, by omega, by omega, by omega, rfl, by go_num, Lib.hid ⟨by rw [HK.out.1, of_decide_eq_true HK.out.2.1, of_decide_eq_true HK.out.2.2], fun z h1 h2 => by omega⟩, HIn⟩
                        | refine ⟨last, k + 1, by omega, by omega, by omega, rfl, by go_num, Lib.hid ⟨hM.out.1, fun z h1 h2 => ?_⟩, HIn⟩
                          rcases Nat.lt_or_ge z k with h3 | h3
                          · exact hM.out.2 z h1 h3
                          · obtain rfl : z = k := by omega
                            rw [HK.out.1]
                            intro he
                            have h4 := HK.out.2.1
                            have h5 := HK.out.2.2
                            simp at he h4 h5
                            omega
                  · obtain rfl : len = k := by omega
                    have hlook : lookO T (idBytes m q) = some (last : Int) := by
                      rw [← HWf.out.2.2.2.2.1]
                      exact fillK_last L HR1.out.2.2.1 hM.out.1 len (by have := HLr.out; omega) hll hM.out.2
                    have hG : Calls Try.prog 9 #[.pointer (some ⟨p, 0, none⟩), .agg #[.int .u64 m, .int .u64 q]] wr (fun e w' => e = .returned (.tuple #[.int .i64 last, .bool true]) ∧ Below wr.heap.size wr w') := by
                      have h1 := radGet (HT.out wr (HB13.out.trans (hI2.out.mono HB13.out.size))).1 HJ.out.2.1 HJ.out.2.2
                      rw [hlook] at h1
                      exact h1
                    have HG := Lib.hid hG
                    obtain ⟨d0, d1⟩ := HDj.out wr hI2.out
                    clear hG hlook
                    go_wp2_with fail
                    refine HG.out.mono ?_
                    rintro e w20 ⟨rfl, b20⟩
                    have HIn := Lib.hid (hI2.out.trans (b20.mono hI2.out.size))
                    clear b20 d0 d1
                    go_wp2_with fail
                    go_roundw
                    case rel => exact ⟨j + 1, by omega, by go_num, HIn⟩
                    case measure => simp [intOf]; omega
              · obtain rfl : len = j := by omega
                have HE := Lib.hid (HB1.out.trans ((HBw.out.trans (hI.out.mono HBw.out.size)).mono HB1.out.size))
                clear hI
                go_wp2_with fail
                go_ret
                exact ⟨rfl, HE.out⟩
end Go.Proofs.Ytbjpfnafhhbmaaa.Rad
