/- radix: From's inner walk. -/
import Derived.Test.YtbjpfnafhhbmaaaRad33
import Derived.Deep.Cut
namespace Go.Proofs.Ytbjpfnafhhbmaaa.Rad
open Go.Proofs.Ytbjpfnafhhbmaaa
set_option linter.unusedVariables false
set_option linter.unusedSimpArgs false
open Go.RowKit RT
theorem conv_any {w : World} {a : Option Addr} {xs : List UInt8} {n c : Nat} (h : BytesIn w a xs c) (hn : xs.length = n) : (convert 42 9 (.slice a n c)).run Try.prog w = .ok (.string (strOf xs)) w := by
  rcases Nat.eq_zero_or_pos n with h0 | h0
  · have hx : xs = [] := List.eq_nil_of_length_eq_zero (by omega)
    subst hx
    subst h0
    rw [run_convert_bytes_string w _ _ 5 _ _ _ Try.underlying42 Try.underlying5 Try.underlying9]
    cases a with
    | none => rfl
    | some A =>
      have hL := run_loadCells_list (P := Try.prog) w A [] (by simp)
      rw [List.length_nil] at hL
      rw [run_bytesToString (ns := []) w A 0 c hL]
      rfl
  · obtain ⟨b, o, rfl, hc⟩ := h.2.resolve_left (by omega)
    exact run_string_row w _ _ 5 Try.underlying42 Try.underlying5 Try.underlying9 b o n c xs hn fun i hi => by rw [hc i hi]; simp [List.getD, hi]
theorem info_ent : (Try.prog.info? 61).map (fun i => (i.zero.map fun z => z.cells.size, i.size)) = some (some 3, 3) := by kernel_rfl
/-- What the inner walk leaves. -/
def Walked (w : World) (Bl B0 : Nat) (lv : Value) (ents new : List (List UInt8 × VT)) (e : Ending) (w' : World) : Prop :=
  e = .returned (.tuple #[]) ∧ ∃ lv', w'.heap[Bl]? = some (.cells #[lv'] 57 (0, 0)) ∧ SliceN w' B0 61 3 lv' (ents ++ new).length ((ents ++ new).flatMap entC) ∧
    Chg (fun k => k = Bl ∨ vblock lv = some k) w w' ∧ (vblock lv' = vblock lv ∨ ∃ g, vblock lv' = some g ∧ w.heap.size ≤ g)
theorem Walked.none {w w' : World} {Bl B0 : Nat} {lv : Value} {ents : List (List UInt8 × VT)} (hl : w.heap[Bl]? = some (.cells #[lv] 57 (0, 0))) (hs : SliceN w B0 61 3 lv ents.length (ents.flatMap entC)) (hb : Below w.heap.size w w') : Walked w Bl B0 lv ents [] (.returned (.tuple #[])) w' := by
  refine ⟨rfl, lv, (hb.block Bl (heap_lt hl)).trans hl, ?_, Chg.of_below _ hb, .inl rfl⟩
  rw [List.append_nil]
  exact hs.below hb
theorem items_pref (b : List UInt8) (v : VT) (k : List RT) : ∃ L0, RT.items (.mk b v k) = pref b L0 := by
  rw [RT.items]
  split
  · exact ⟨[([], v)], by simp [pref]⟩
  · exact ⟨_, rfl⟩
theorem info_ent2 : ∃ i0 z0, Try.prog.info? 61 = some i0 ∧ i0.zero = some z0 ∧ z0.cells.size = 3 ∧ i0.size = 3 ∧ i0.bytes ≤ 1000 := by
  have h : (Try.prog.info? 61).map (fun i => (i.zero.map fun z => z.cells.size, i.size, decide (i.bytes ≤ 1000))) = some (some 3, 3, true) := by kernel_rfl
  cases hi : Try.prog.info? 61 with
  | none => rw [hi] at h; cases h
  | some i0 =>
    rw [hi] at h
    simp only [Option.map_some, Option.some.injEq, Prod.mk.injEq, decide_eq_true_eq] at h
    obtain ⟨h1, h2, h3⟩ := h
    cases hz : i0.zero with
    | none => rw [hz] at h1; cases h1
    | some z0 =>
      rw [hz] at h1
      exact ⟨i0, z0, rfl, hz, by simpa using h1, h2, h3⟩
theorem fromL_le (L p : List UInt8) : ∀ l : List RT, (fromL L (pref p (RT.itemsS l))).length ≤ RT.nodesS l := by
  have h : ∀ l : List RT, (RT.itemsS l).length ≤ RT.nodesS l := by
    intro l
    induction l with
    | nil => simp [RT.itemsS]
    | cons t l ih => rw [RT.itemsS, RT.nodesS, List.length_append]; have := @items_le t; omega
  intro l
  have h1 := List.length_filter_le (fun p : List UInt8 × VT => !decide (p.1 < L)) (pref p (RT.itemsS l))
  have h2 := h l
  unfold fromL
  simp only [pref, List.length_map] at h1 ⊢
  omega
set_option maxHeartbeats 6400000 in
set_option maxRecDepth 100000 in
theorem radWalk {lst : List UInt8} (hL : lst.length = 16) {Bs Bl Bw B0 : Nat} (hBs : Bs < B0) (hBl : Bl < B0) (hBw : Bw < B0) (hsl : Bs ≠ Bl) (hwl : Bw ≠ Bl) : ∀ (m : Nat) {w : World} {ro : Nat → Prop} {u : RT} {x : Nat} {own : List Nat} {pre : List UInt8} {a : Option Addr} {n ca : Nat} {lv : Value} {ents : List (List UInt8 × VT)},
    RT.nodes u ≤ m → NodeAt w ro u x own → WF (16 - pre.length) u → pre.length = n → n ≤ 16 → (pre = [] ∨ u.begin ≠ []) → (∀ q, q ∈ own ∨ ro q → q < B0 ∧ q ≠ Bl) → BytesIn w a pre ca → (pre = [] → a = none) → (∀ g o, a = some ⟨g, o, none⟩ → g ≠ Bl ∧ vblock lv ≠ some g) →
    w.cell? ⟨Bs, 0, none⟩ = some (.string (strOf lst)) → w.cell? ⟨Bw, 0, none⟩ = some (.func (.func 25) #[] #[.pointer (some ⟨Bs, 0, none⟩), .pointer (some ⟨Bl, 0, none⟩), .pointer (some ⟨Bw, 0, none⟩)]) →
    w.heap[Bl]? = some (.cells #[lv] 57 (0, 0)) → SliceN w B0 61 3 lv ents.length (ents.flatMap entC) → ents.length + RT.nodes u ≤ 10000000 → B0 ≤ w.heap.size →
    Calls Try.prog 25 #[ptrV x, .slice a n ca, .pointer (some ⟨Bs, 0, none⟩), .pointer (some ⟨Bl, 0, none⟩), .pointer (some ⟨Bw, 0, none⟩)] w (Walked w Bl B0 lv ents (fromL lst (pref pre (RT.items u))))
  | 0, w, ro, .mk b v k, x, own, pre, a, n, ca, lv, ents, hm, _, _, _, _, _, _, _, _, _, _, _, _, _, _, _ => by rw [RT.nodes] at hm; omega
  | m + 1, w, ro, .mk b v k, x, own, pre, a, n, ca, lv, ents, hm, h, hwf, hn, hn16, hpre, hdis, ha, haz, hag, cs, cw, hl, hs, hcnt, hB0 => by
    obtain ⟨ax, cx, kv, xs, rows, hp, ho⟩ := parts_of h
    obtain ⟨k1, k2, k3, k4⟩ := hwf.kids
    obtain ⟨bl, hbl⟩ : ∃ bl, b.length = bl := ⟨_, rfl⟩
    have hp1 := hp.1
    rw [hbl] at hp1
    have x0 := cell_in hp1 (i := 0) rfl
    have hxlt := heap_lt hp1
    obtain ⟨a2, c2, w1, hr1, hb1, hbi1, hfr1, hz1⟩ := append_begin (w := w.drewN 1) (pre := pre) (b := b) (n := n) (m := bl) (ax := ax) (cx := cx) (c := ca) ha hp.2.1.bytes hn hbl (by omega) haz hpre
    obtain ⟨pre2, hpre2⟩ : ∃ pre2, pre ++ b = pre2 := ⟨_, rfl⟩
    obtain ⟨n2, hn2⟩ : ∃ n2, n + bl = n2 := ⟨_, rfl⟩
    rw [hpre2] at hbi1 hz1
    rw [hn2] at hr1
    have hl2 : pre2.length = n2 := by rw [← hpre2, List.length_append]; omega
    have hn216 : n2 ≤ 16 := by omega
    have hca : n ≤ ca := by have := ha.1; omega
    -- the second region
    have hb01 : Below w.heap.size w w1 := (belowN (Below.refl _ _) 1).trans hb1
    have hBsw : Bs < w.heap.size := by omega
    have s1 : w1.cell? ⟨Bs, 0, none⟩ = some (.string (strOf lst)) := (hb01.cell (p := ⟨Bs, 0, none⟩) hBsw).trans cs
    have hcv : (convert 42 9 (.slice a2 n2 c2)).run Try.prog w1.drew = .ok (.string (strOf pre2)) w1.drew := conv_any (w := w1.drew) hbi1 hl2
    obtain ⟨bb, hbb⟩ : ∃ bb, Op.bytesLess (strOf pre2).toList ((strOf lst).extract 0 n2).toList = bb := ⟨_, rfl⟩
    have hbb2 : bb = decide (pre2 < lst.take n2) := by
      rw [← hbb, ByteArray.toList_eq, ByteArray.toList_eq, bytesLess_eq]
      congr 1
      rw [strOf_data]
      have : ((strOf lst).extract 0 n2).data.toList = lst.take n2 := by
        simp [strOf, ByteArray.data_extract]
      rw [this]
    obtain ⟨S1, hS1⟩ : ∃ S1, strOf pre2 = S1 := ⟨_, rfl⟩
    obtain ⟨S2, hS2⟩ : ∃ S2, strOf lst = S2 := ⟨_, rfl⟩
    have hS2s : S2.size = 16 := by rw [← hS2]; simp [hL]
    rw [hS1, hS2] at hbb
    rw [hS1] at hcv
    rw [hS2] at s1
    obtain ⟨X1, f, hX1, hf, hF⟩ := classOf (fun w' => w'.cell? ⟨x, 0, none⟩ = some (.slice ax bl cx)) (w := w.drew) x0
    have HF := Lib.hid (hF w.drew x0)
    obtain ⟨X2, f', hX2, hf', hF'⟩ := classOf (fun w' => w'.cell? ⟨Bs, 0, none⟩ = some (.string S2) ∧ (convert 42 9 (.slice a2 n2 c2)).run Try.prog w' = .ok (.string S1) w') (w := w1.drew) ⟨s1, hcv⟩
    have f1' := fun x => (hf' x).1
    have f2' := fun x => (hf' x).2
    have HF' := Lib.hid (hF' w1.drew ⟨s1, hcv⟩)
    have HR1 := Lib.hid hr1
    have HM := Lib.hid (And.intro hm (And.intro h (And.intro hwf (And.intro hdis (And.intro cs (And.intro cw (And.intro hl (And.intro hs hcnt))))))))
    have HW1 := Lib.hid (And.intro hb1 (And.intro hb01 (And.intro hbi1 (And.intro hfr1 (And.intro hz1 (And.intro hl2 hpre2))))))
    have HK := Lib.hid (And.intro k1 (And.intro k2 (And.intro k3 (And.intro k4 hbl))))
    have HP := Lib.hid (And.intro hn (And.intro hag hbb2))
    have HBB := Lib.hid hbb
    have HX := Lib.hid hp1
    clear hF hF' hf' hr1 h hwf hdis cs cw hl hs hp hp1 hb1 hb01 hbi1 hfr1 hz1 hl2 hpre2 k1 k2 k3 k4 hbl hn hag hbb2 hpre haz ha hS1 hS2 s1 hcv hm hcnt hBsw hbb
    unfold ptrV
    go_enter Try.func25, Try.ntmps25
    go_wp2_with fail
    refine wp_region_text ⟨[10], [11], 10⟩ (fun w' => ∃ x : X1, w' = f x) (by kernel_rfl) (by kernel_rfl) HF.out ?_
    refine wpC_seg false (HF.out) 10 0 _ _ (by rfl) (by rfl) ?_
    simp only [List.take_succ_cons, List.take_zero, List.drop_succ_cons, List.drop_zero, Bool.false_eq_true, if_false, Nat.zero_add, Nat.reduceAdd]
    repeat (go_big_quiet_step (fail))
    refine wpQuiet_nil ?_
    refine wpC_value (by rfl) (by rfl) (exec_append rfl HR1.out) (fun h => absurd h (by decide)) ?_
    simp only [Act.put, List.setIfInBounds_toArray, List.set_cons_succ, List.set_cons_zero]
    refine wpC_segD 1 11 _ _ (by rfl) (by rfl) ?_
    simp only [List.take_succ_cons, List.take_zero, List.drop_succ_cons, List.drop_zero, if_true, Nat.zero_add, Nat.reduceAdd]
    repeat (go_big_quiet_step (fail))
    refine wpQuiet_nil ?_
    refine wpC_nil ?_
    clear hf hX1 HF f x0
    go_upto_region 1 with (fail)
    refine wp_region_text ⟨[], [], 7⟩ (fun w' => ∃ x : X2, w' = f' x) (by kernel_rfl) (by kernel_rfl) HF'.out ?_
    refine wpC_seg false (HF'.out) 7 0 _ _ (by rfl) (by rfl) ?_
    simp only [List.take_succ_cons, List.take_zero, List.drop_succ_cons, List.drop_zero, Bool.false_eq_true, if_false, Nat.zero_add, Nat.reduceAdd]
    repeat (go_big_quiet_step (fail))
    refine wpQuiet_nil ?_
    refine wpC_nil ?_
    clear f1' f2' hX2 HF' f'
    rw [HBB.out]
    have hst2 := HP.out.2.2
    rcases Bool.eq_false_or_eq_true bb with hb | hb
    · subst hb
      have hlt : pre2 < lst.take n2 := by simpa using hst2
      clear hst2
      go_wp2_with fail
      go_end0
      obtain ⟨hm, h, hwf, hdis, cs, cw, hl, hs, hcnt⟩ := HM.out
      obtain ⟨hb1, hb01, hbi1, hfr1, hz1, hl2, hpre2⟩ := HW1.out
      obtain ⟨L0, hL0⟩ := items_pref b v k
      have hnil : fromL lst (pref pre (RT.items (.mk b v k))) = [] := by
        rw [hL0, pref_append, hpre2]
        exact fromL_none L0 (by omega) (by rw [hl2]; exact hlt)
      rw [hnil]
      exact Walked.none hl hs (belowN hb01 _)
    · subst hb
      have hnlt : ¬ pre2 < lst.take n2 := by simpa using hst2
      clear hst2
      obtain ⟨k1, k2, k3, k4, hbl⟩ := HK.out
      have hn := HP.out.1
      rcases Decidable.em (k = []) with hk | hk
      · subst hk
        have hn2e : n2 = 16 := by have := k2 rfl; omega
        subst hn2e
        obtain ⟨hm, h, hwf, hdis, cs, cw, hl, hs, hcnt⟩ := HM.out
        obtain ⟨hb1, hb01, hbi1, hfr1, hz1, hl2, hpre2⟩ := HW1.out
        obtain ⟨ms, hms⟩ : ∃ ms, valB (pre2.take 8) = ms := ⟨_, rfl⟩
        obtain ⟨sq, hsq⟩ : ∃ sq, valB (pre2.drop 8) = sq := ⟨_, rfl⟩
        have hid := id_valB hl2
        rw [hms, hsq] at hid
        obtain ⟨g2, o2, rfl, hc2⟩ := hbi1.2.resolve_left (by omega)
        have hmslt : ms < 18446744073709551616 := by rw [← hms]; exact valB_lt64 _ (by simp; omega)
        have hsqlt : sq < 18446744073709551616 := by rw [← hsq]; exact valB_lt64 _ (by simp; omega)
        have hms0 := hms
        have hsq0 := hsq
        have HId := Lib.hid (fun d => ident_any hmslt hsqlt (w := w1.drewN d) (b := g2) (o := o2) (ca := c2) (by have := hbi1.1; omega) fun i hi => by rw [hid]; exact hc2 i (by omega))
        have hlw := heap_lt hl
        obtain ⟨al, cl, rfl, _, _⟩ := hs.form
        obtain ⟨nl, hnl⟩ : ∃ nl, ents.length = nl := ⟨_, rfl⟩
        have hl1 : w1.heap[Bl]? = some (.cells #[.slice al nl cl] 57 (0, 0)) := by rw [← hnl]; exact (hb01.block Bl hlw).trans hl
        have hx1 : w1.heap[x]? = some (.cells #[.slice ax bl cx, kv, vC v] 45 (0, 0)) := (hb01.block x hxlt).trans HX.out
        have l1 := cell_in hl1 (i := 0) rfl
        have x2 := cell_in hx1 (i := 2) rfl
        obtain ⟨X3, f3, hX3, hf3, hF3⟩ := classOf (fun w' => w'.cell? ⟨Bl, 0, none⟩ = some (.slice al nl cl) ∧ w'.cell? ⟨x, 2, none⟩ = some (vC v)) (w := w1.drew) ⟨l1, x2⟩
        have g1' := fun x => (hf3 x).1
        have g2' := fun x => (hf3 x).2
        have HF3 := Lib.hid (fun w' h => hF3 w' h)
        have HF3a := Lib.hid (hF3 (w1.drewN 2) ⟨l1, x2⟩)
        clear hF3 hf3 h hwf hdis cs cw hl hs hb1 hb01 hbi1 hfr1 hz1 hms hsq hid hc2 hmslt hsqlt
        go_upto_region 3 with (fail)
        refine wp_region_text ⟨[2, 8, 9, 10], [], 10⟩ (fun w' => ∃ x : X3, w' = f3 x) (by kernel_rfl) (by kernel_rfl) HF3a.out ?_
        refine wpC_seg false (HF3a.out) 2 0 _ _ (by rfl) (by rfl) ?_
        simp only [List.take_succ_cons, List.take_zero, List.drop_succ_cons, List.drop_zero, Bool.false_eq_true, if_false, Nat.zero_add, Nat.reduceAdd]
        repeat (go_big_quiet_step (fail))
        refine wpQuiet_nil ?_
        refine wpC_loud (by rfl) (by rfl) fun K hK => ?_
        go_wp2_with fail
        refine (HId.out 2).mono ?_
        rintro e w2 ⟨rfl, hb2⟩
        obtain ⟨hm, h, hwf, hdis, cs, cw, hl, hs, hcnt⟩ := HM.out
        obtain ⟨hb1, hb01, hbi1, hfr1, hz1, hl2, hpre2⟩ := HW1.out
        have hb02 := (belowN hb01 2).trans (hb2.mono hb01.size)
        have l2 : w2.cell? ⟨Bl, 0, none⟩ = some (.slice al nl cl) := (hb2.cell (p := ⟨Bl, 0, none⟩) (heap_lt hl1)).trans l1
        have x22 : w2.cell? ⟨x, 2, none⟩ = some (vC v) := (hb2.cell (p := ⟨x, 2, none⟩) (heap_lt hx1)).trans x2
        have HC2 := Lib.hid (HF3.out w2 ⟨l2, x22⟩)
        obtain ⟨i0, z0, q1, q2, q3, q4, q5⟩ := info_ent2
        rw [hnl] at hs
        have hcnt2 : nl + 1 ≤ 10000000 := by
          have h1 : 1 ≤ RT.nodes (.mk b v []) := by rw [RT.nodes]; omega
          omega
        obtain ⟨lv', w4, hr4, hs4, hc4, hv4⟩ := run_append_oneN (P := Try.prog) (t := 57) (ty := 57) (z := 3) (w := w2) Try.underlying57 q1 q2 q4 rfl q3 (hs.below hb02) (by have := hb02.size; omega) [.int .u64 ms, .int .u64 sq, vC v] rfl (by simp [Value.oneCell']) (by unfold maxLen; omega) (Nat.le_trans (Nat.mul_le_mul hcnt2 q5) (by omega))
        obtain ⟨al', cl', rfl, _, _⟩ := hs4.form
        have hvb : ∀ g, vblock (.slice al nl cl) = some g → B0 ≤ g ∧ g < w.heap.size := fun g hg => hs.block_lt hg
        have hbw2 : Below w2.heap.size w2 (w2.alloc (.cells #[.int .u64 ms, .int .u64 sq, vC v] 61)) := (Below.refl _ _).alloc (Nat.le_refl _) _
        have l3 : (w2.alloc (.cells #[.int .u64 ms, .int .u64 sq, vC v] 61)).cell? ⟨Bl, 0, none⟩ = some (.slice al nl cl) := (hbw2.cell (p := ⟨Bl, 0, none⟩) (World.block_lt_of_cell? w2 _ l2)).trans l2
        have x23 : (w2.alloc (.cells #[.int .u64 ms, .int .u64 sq, vC v] 61)).cell? ⟨x, 2, none⟩ = some (vC v) := (hbw2.cell (p := ⟨x, 2, none⟩) (World.block_lt_of_cell? w2 _ x22)).trans x22
        have HC3 := Lib.hid (HF3.out _ ⟨l3, x23⟩)
        have hh2 : w2.heap[Bl]? = some (.cells #[.slice al nl cl] 57 (0, 0)) := (hb2.block Bl (heap_lt hl1)).trans hl1
        have hh4 : w4.heap[Bl]? = some (.cells #[.slice al nl cl] 57 (0, 0)) := hc4.keep hh2 fun e => by have := hvb _ e; omega
        have hx4 : w4.heap[x]? = some (.cells #[.slice ax bl cx, kv, vC v] 45 (0, 0)) := hc4.keep ((hb2.block x (heap_lt hx1)).trans hx1) fun e => by have := hvb _ e; have := hdis x (.inl (by obtain ⟨_, _, _, _, _, _, ho⟩ := parts_of h; rw [ho]; simp)); omega
        have l4 := cell_in hh4 (i := 0) rfl
        have f4 := frozen_in hh4 0
        have x24 := cell_in hx4 (i := 2) rfl
        have HC4 := Lib.hid (HF3.out w4 ⟨l4, x24⟩)
        obtain ⟨w5, hw5⟩ : ∃ w5, w5 = w4.setCell ⟨Bl, 0, none⟩ (.slice al' (nl + 1) cl') := ⟨_, rfl⟩
        have hc45 : Chg (fun j => j = Bl) w4 w5 := by rw [hw5]; exact Chg.setCell _ _ _ _ rfl
        have hl5 : w5.heap[Bl]? = some (.cells #[.slice al' (nl + 1) cl'] 57 (0, 0)) := by rw [hw5]; exact setCell_head hh4 0 _
        have hx5 : w5.heap[x]? = some (.cells #[.slice ax bl cx, kv, vC v] 45 (0, 0)) := hc45.keep hx4 (hdis x (.inl (by obtain ⟨_, _, _, _, _, _, ho⟩ := parts_of h; rw [ho]; simp))).2
        have hfin : ∀ d, Walked w Bl B0 (.slice al nl cl) ents (fromL lst (pref pre (RT.items (.mk b v [])))) (.returned (.tuple #[])) (w5.drewN d) := fun d => by
          have hkv0 : fromL lst (pref pre (RT.items (.mk b v []))) = [(pre2, v)] := by
            rw [show RT.items (.mk b v []) = [(b, v)] by rw [RT.items]; rfl]
            simp only [pref, List.map_cons, List.map_nil, hpre2, fromL]
            rw [List.filter_cons_of_pos (by
              have : lst.take 16 = lst := List.take_of_length_le (by omega)
              rw [this] at hnlt
              simpa using hnlt)]
            rfl
          rw [hkv0]
          refine ⟨rfl, _, hl5, ?_, ?_, ?_⟩
          · have e1 : (ents ++ [(pre2, v)]).length = nl + 1 := by simp [hnl]
            have e2 : (ents ++ [(pre2, v)]).flatMap entC = ents.flatMap entC ++ [.int .u64 ms, .int .u64 sq, vC v] := by simp [entC, hms0, hsq0]
            rw [e1, e2]
            have := hs4.chg hc45 fun j hj e => by have := (hs4.block_lt hj).1; omega
            exact this
          · refine (((Chg.of_below (fun j => j = Bl ∨ vblock (.slice al nl cl) = some j) hb02).trans hc4 fun j hj _ => .inr hj).trans hc45 fun j hj _ => .inl hj).trans (Chg.drewN (fun j => j = Bl ∨ vblock (.slice al nl cl) = some j) _ d) fun _ h _ => h
          · exact hv4.imp id fun ⟨g, h1, h2⟩ => ⟨g, h1, by have := hb02.size; omega⟩
        have HNl := Lib.hid hnl
        have HFin := Lib.hid hfin
        have HR4 := Lib.hid hr4
        have HW5 := Lib.hid hw5
        have x51 := cell_in hx5 (i := 1) rfl
        obtain ⟨akv, ckv, hkv⟩ : ∃ a c, kv = .slice a 0 c := by
          obtain ⟨ax', cx', kv', xs', rows', hp', _⟩ := parts_of h
          have e := hp'.1.symm.trans HX.out
          simp only [Option.some.injEq, Obj.cells.injEq, Array.mk.injEq, List.cons.injEq] at e
          obtain ⟨a', c', he, _⟩ := hp'.2.2.1.arg
          exact ⟨a', c', e.1.2.1.symm.trans he⟩
        subst hkv
        clear hfin hr4 hw5 hl5 hx5 hc45 hx4 hh4 hh2 hvb hs4 hc4 hv4 hb2 hb02 h hwf hdis cs cw hl hs hb1 hb01 hbi1 hfr1 hz1 q1 q2 q3 q4 hbw2 hl1 hx1 l2 x22 l3 x23 x24
        refine hK _ _ (fun _ => HC2.out) ?_
        clear hK
        refine wpC_seg false (HC2.out) 5 3 _ _ (by rfl) (by rfl) ?_
        simp only [List.take_succ_cons, List.take_zero, List.drop_succ_cons, List.drop_zero, Bool.false_eq_true, if_false, Nat.zero_add, Nat.reduceAdd]
        repeat (go_big_quiet_step (fail))
        refine wpQuiet_nil ?_
        refine wpC_loud (by rfl) (by rfl) fun K' hK' => ?_
        go_wp2_with fail
        refine hK' _ _ (fun _ => HC3.out) ?_
        clear hK'
        refine wpC_value (by rfl) (by rfl) (exec_append rfl HR4.out) (fun _ => HC4.out) ?_
        simp only [Act.put, List.setIfInBounds_toArray, List.set_cons_succ, List.set_cons_zero]
        refine wpC_loud (by rfl) (by rfl) fun K' hK' => ?_
        go_wp2_with fail
        rw [← HW5.out]
        refine hK' _ _ (fun h => absurd h (by decide)) ?_
        clear hK'
        refine wpC_nil ?_
        clear g1' g2' hX3 HC2 HC3 HC4 HF3 HF3a f3 l4 f4
        go_wp2_with fail
        go_loopw [45] (fun i wr => i = .int .i64 0 ∧ ∃ d, wr = w5.drewN d) (fun _ _ => 0)
        case atStart => exact ⟨rfl, 0, rfl⟩
        case round =>
          obtain ⟨rfl, d, rfl⟩ := hrel
          go_wp2_with fail
          go_end0
          rw [HNl.out]
          exact HFin.out _
      · obtain ⟨hm, h, hwf, hdis, cs, cw, hl, hs, hcnt⟩ := HM.out
        obtain ⟨hb1, hb01, hbi1, hfr1, hz1, hl2, hpre2⟩ := HW1.out
        have hn2l : n2 < 16 := by have := (k3 hk).2.2; omega
        have e16 : ((n2 : Int) == 16) = false := by simp; omega
        have hnn : RT.nodes (.mk b v k) = 1 + RT.nodesS k := by rw [RT.nodes]
        rw [hnn] at hm hcnt
        obtain ⟨akv, ckv, x1, _, hkids⟩ := kid_ptr h
        have x1' : w1.cell? ⟨x, 1, none⟩ = some (.slice akv k.length ckv) := (hb01.cell (p := ⟨x, 1, none⟩) hxlt).trans x1
        have hl1 : w1.heap[Bl]? = some (.cells #[lv] 57 (0, 0)) := (hb01.block Bl (heap_lt hl)).trans hl
        have hvb : ∀ g, vblock lv = some g → B0 ≤ g ∧ g < w.heap.size := fun g hg => hs.block_lt hg
        have hnle : ∀ i, RT.nodesS (k.take i) ≤ RT.nodesS k := fun i => by
          have : ∀ (l : List RT) (i : Nat), RT.nodesS (l.take i) ≤ RT.nodesS l := by
            intro l
            induction l with
            | nil => intro i; simp
            | cons t l ih =>
              intro i
              cases i with
              | zero => simp [RT.nodesS]
              | succ i => simp only [List.take_succ_cons, RT.nodesS]; have := ih i; omega
          exact this k i
        have hw4 : WFS (16 - n2) k := by
          have := k4
          rw [hbl, hn, show 16 - n - bl = 16 - n2 by omega] at this
          exact this
        have hwl1 : B0 ≤ w1.heap.size := Nat.le_trans hB0 hb01.size
        have hkl : k.length ≤ 256 := hw4.few
        have HC1 := Lib.hid (show ∀ (w' : World) (j : Nat) (hj : j < k.length) (lvj : Value) (ej : List (List UInt8 × VT)), Chg (fun q => q = Bl ∨ vblock lv = some q) w1 w' → (vblock lvj = vblock lv ∨ ∃ g, vblock lvj = some g ∧ w1.heap.size ≤ g) →
            w'.heap[Bl]? = some (.cells #[lvj] 57 (0, 0)) → SliceN w' B0 61 3 lvj ej.length (ej.flatMap entC) → ej = ents ++ fromL lst (pref pre2 (RT.itemsS (k.take j))) →
            ∃ g z, akv = some ⟨g, 0, none⟩ ∧ w'.cell? ⟨g, j, none⟩ = some (.pointer (some ⟨z, 0, none⟩)) ∧ w'.cell? ⟨Bw, 0, none⟩ = some (.func (.func 25) #[] #[.pointer (some ⟨Bs, 0, none⟩), .pointer (some ⟨Bl, 0, none⟩), .pointer (some ⟨Bw, 0, none⟩)]) ∧
              Calls Try.prog 25 #[.pointer (some ⟨z, 0, none⟩), .slice a2 n2 c2, .pointer (some ⟨Bs, 0, none⟩), .pointer (some ⟨Bl, 0, none⟩), .pointer (some ⟨Bw, 0, none⟩)] w' (Walked w' Bl B0 lvj ej (fromL lst (pref pre2 (RT.items k[j])))) from by
          intro w' j hj lvj ej hc hlv hlj hsj hej
          obtain ⟨g, z, oi, rfl, hz, hg, hnode, hoi, hgo⟩ := hkids j hj
          have hS : ∀ q, q < B0 → q ≠ Bl → ¬ (q = Bl ∨ vblock lv = some q) := fun q h1 h2 h3 => by
            rcases h3 with h3 | h3
            · exact h2 h3
            · have := hvb q h3; omega
          have hc0 : Chg (fun q => q = Bl ∨ vblock lv = some q) w w' := (Chg.of_below (fun q => q = Bl ∨ vblock lv = some q) hb01).trans hc fun _ h _ => h
          have cellk : ∀ q i, q < B0 → q ≠ Bl → w'.cell? ⟨q, i, none⟩ = w.cell? ⟨q, i, none⟩ := fun q i h1 h2 => World.cell?_of_block (w := w) (hc0.block q (by omega) (hS q h1 h2))
          refine ⟨g, z, rfl, (cellk g j (hdis g (.inl hgo)).1 (hdis g (.inl hgo)).2).trans hz, (cellk Bw 0 hBw hwl).trans cw, ?_⟩
          have hmem := hw4.mem k[j] (List.getElem_mem hj)
          have h1 := RT.nodes_get hj
          have h2 := RT.nodesS_succ hj
          have h3 := hnle (j + 1)
          have h4 := fromL_le lst pre2 (k.take j)
          refine radWalk hL hBs hBl hBw hsl hwl m (w := w') (ro := ro) (u := k[j]) (own := oi) (pre := pre2) (by omega) (hnode.chg hc0 (fun q hq => hS q (hdis q (.inr hq)).1 (hdis q (.inr hq)).2) fun q hq => hS q (hdis q (.inl (hoi q hq))).1 (hdis q (.inl (hoi q hq))).2)
            (by rw [hl2]; exact hmem.2) hl2 hn216 (.inr hmem.1) (fun q hq => hdis q (hq.imp (hoi q) id)) ?_ hz1 ?_ ((cellk Bs 0 hBs hsl).trans cs) ((cellk Bw 0 hBw hwl).trans cw) hlj hsj ?_ (Nat.le_trans hwl1 hc.size)
          · refine ⟨hbi1.1, hbi1.2.imp id ?_⟩
            rintro ⟨g2, o2, e, hc2⟩
            have hg2 := hfr1 g2 o2 e
            refine ⟨g2, o2, e, fun i hi => ?_⟩
            rw [World.cell?_of_block (w := w1) (a := ⟨g2, o2 + i, none⟩) (hc.block g2 (World.block_lt_of_cell? w1 _ (hc2 i hi)) (fun h3 => by
              have hg2' : w.heap.size ≤ g2 := hg2
              rcases h3 with h3 | h3
              · omega
              · have := hvb g2 h3; omega))]
            exact hc2 i hi
          · intro g2 o2 e
            have hg2 : w.heap.size ≤ g2 := hfr1 g2 o2 e
            refine ⟨by omega, fun hlvg => ?_⟩
            rcases hlv with h | ⟨g', h, h'⟩
            · rw [h] at hlvg; have := hvb g2 hlvg; omega
            · rw [h] at hlvg; cases hlvg
              rcases hbi1.2 with h0 | ⟨_, _, e', hc2⟩
              · have : pre2 = [] := List.eq_nil_of_length_eq_zero h0
                rw [hz1 this] at e; cases e
              · rw [e] at e'; cases e'
                by_cases hp0 : 0 < pre2.length
                · have := World.block_lt_of_cell? w1 _ (hc2 0 hp0)
                  simp only at this
                  omega
                · have : pre2 = [] := List.eq_nil_of_length_eq_zero (by omega)
                  rw [hz1 this] at e; cases e
          · rw [hej, List.length_append]; omega)
        have HFin := Lib.hid (show ∀ (w' : World) (lvj : Value) (ej : List (List UInt8 × VT)), Chg (fun q => q = Bl ∨ vblock lv = some q) w1 w' → (vblock lvj = vblock lv ∨ ∃ g, vblock lvj = some g ∧ w1.heap.size ≤ g) →
            w'.heap[Bl]? = some (.cells #[lvj] 57 (0, 0)) → SliceN w' B0 61 3 lvj ej.length (ej.flatMap entC) → ej = ents ++ fromL lst (pref pre2 (RT.itemsS (k.take k.length))) →
            Walked w Bl B0 lv ents (fromL lst (pref pre (RT.items (.mk b v k)))) (.returned (.tuple #[])) w' from by
          intro w' lvj ej hc hlv hlj hsj hej
          have e1 : RT.items (.mk b v k) = pref b (RT.itemsS k) := by
            rw [RT.items, if_neg (by simpa using hk)]; rfl
          rw [e1, pref_append, hpre2]
          rw [List.take_length] at hej
          rw [hej] at hsj
          exact ⟨rfl, lvj, hlj, hsj, (Chg.of_below (fun q => q = Bl ∨ vblock lv = some q) hb01).trans hc fun _ h _ => h, hlv.imp id fun ⟨g, h1, h2⟩ => ⟨g, h1, Nat.le_trans hb01.size h2⟩⟩)
        have hs1 := hs.below hb01
        have HS1 := Lib.hid (And.intro hl1 hs1)
        clear hnn hkids x1 hl1 hvb hnle hw4 hwl1 hs1 h hwf hdis cs cw hl hs hb1 hb01 hbi1 hfr1 hz1 hl2 hpre2 k1 k2 k3 k4 hbl hn hnlt hk hm hcnt
        go_wp2_with fail
        go_loopw [45] (fun i wr => ∃ j : Nat, j ≤ k.length ∧ i = .int .i64 j ∧ Hid (∃ lvj ej, Chg (fun q => q = Bl ∨ vblock lv = some q) w1 wr ∧ (vblock lvj = vblock lv ∨ ∃ g, vblock lvj = some g ∧ w1.heap.size ≤ g) ∧
          wr.heap[Bl]? = some (.cells #[lvj] 57 (0, 0)) ∧ SliceN wr B0 61 3 lvj ej.length (ej.flatMap entC) ∧ ej = ents ++ fromL lst (pref pre2 (RT.itemsS (k.take j))))) (fun i _ => k.length - (intOf i).toNat)
        case atStart => exact ⟨0, Nat.zero_le _, rfl, Lib.hid ⟨lv, ents, Chg.drewN (fun q => q = Bl ∨ vblock lv = some q) w1 _, .inl rfl, HS1.out.1, HS1.out.2, by simp [RT.itemsS, pref, fromL]⟩⟩
        case round =>
          obtain ⟨j, hj, rfl, hI⟩ := hrel
          obtain ⟨lvj, ej, i1, i2, i3, i4, i5⟩ := hI.out
          by_cases hlt : j < k.length
          · obtain ⟨g, z, rfl, hz, hw', hcall⟩ := HC1.out wr j hlt lvj ej i1 i2 i3 i4 i5
            have HCall := Lib.hid hcall
            have hce : ∀ (w : World) (args : Array Value), (callFunc 25 args).run Try.prog w = .ok (.enter 25 args) w := fun w args => rfl
            have HJ := Lib.hid (And.intro i1 (And.intro i2 i5))
            have HSuc := Lib.hid (itemsS_succ hlt)
            clear hcall i1 i2 i3 i4 i5 hI
            go_wp2_with fail
            refine HCall.out.mono ?_
            rintro e w2 ⟨rfl, lv2, q1, q2, q3, q4⟩
            have HN : Hid (∃ lvj ej, Chg (fun q => q = Bl ∨ vblock lv = some q) w1 w2 ∧ (vblock lvj = vblock lv ∨ ∃ g, vblock lvj = some g ∧ w1.heap.size ≤ g) ∧
                w2.heap[Bl]? = some (.cells #[lvj] 57 (0, 0)) ∧ SliceN w2 B0 61 3 lvj ej.length (ej.flatMap entC) ∧ ej = ents ++ fromL lst (pref pre2 (RT.itemsS (k.take (j + 1))))) := by
              refine Lib.hid ⟨lv2, _, HJ.out.1.trans q3 fun i hi hlt' => ?_, ?_, q1, q2, ?_⟩
              · rcases hi with hi | hi
                · exact .inl hi
                · rcases HJ.out.2.1 with h | ⟨g, h, h'⟩
                  · rw [h] at hi; exact .inr hi
                  · rw [h] at hi; cases hi; omega
              · rcases q4 with h | ⟨g, h, h'⟩
                · rw [h]; exact HJ.out.2.1
                · exact .inr ⟨g, h, Nat.le_trans HJ.out.1.size h'⟩
              · rw [HSuc.out, pref_apd, fromL_append, HJ.out.2.2, List.append_assoc]
            clear q1 q2 q3 q4 hz hw'
            go_wp2_with fail
            go_roundw
            case rel => exact ⟨j + 1, by omega, by go_num, HN⟩
            case measure => simp [intOf]; omega
          · have hjk : j = k.length := by omega
            subst hjk
            have HE := Lib.hid (HFin.out wr lvj ej i1 i2 i3 i4 i5)
            clear i1 i2 i3 i4 i5 hI
            go_wp2_with fail
            go_end0
            exact HE.out
end Go.Proofs.Ytbjpfnafhhbmaaa.Rad
