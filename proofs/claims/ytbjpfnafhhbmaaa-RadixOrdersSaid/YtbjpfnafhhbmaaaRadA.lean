/- radix: the law's all. -/
import Derived.Test.YtbjpfnafhhbmaaaRad35
namespace Go.Proofs.Ytbjpfnafhhbmaaa.Rad
open Go.Proofs.Ytbjpfnafhhbmaaa
set_option linter.unusedVariables false
set_option linter.unusedSimpArgs false
open Go.RowKit RT Go.Shelf
attribute [local go_sem] Oper.semAt_some
/-- Identifiers' cells. -/
def idC (x : Nat × Nat × VT) : List Value := [.int .u64 x.1, .int .u64 x.2.1]
theorem info_id : (Try.prog.info? 25).map (fun i => (i.zero, i.size, i.bytes)) = some (some (.agg #[.int .u64 0, .int .u64 0]), 2, 16) := by kernel_rfl
theorem radStops {w : World} {p bt bi ms seq n : Nat} {G : Nat → Prop} {T : Option RT} (h : TreeF w p G T n) (h1 : ms < 18446744073709551616) (h2 : seq < 18446744073709551616) (hbt : w.cell? ⟨bt, 0, none⟩ = some (.pointer (some ⟨p, 0, none⟩))) (hbi : w.heap[bi]? = some (.cells #[.int .u64 ms, .int .u64 seq] 25 (0, 0))) (hnodes : nodesO T ≤ 1000000) (m : Nat) :
    SeqStopsK Fence.wide m Try.prog 24 #[.pointer (some ⟨bt, 0, none⟩), .pointer (some ⟨bi, 0, none⟩)] encs KeepE (fun xs => xs = toldL T (idBytes ms seq)) (fun pre => pre <+: toldL T (idBytes ms seq)) (toldL T (idBytes ms seq)).length w := by
  intro l J Jx W hW hJ _ hY h0
  have hblt := World.block_lt_of_cell? w _ hbt
  have hilt := heap_lt hbi
  have hbi' := (hW.block bi hilt).trans hbi
  refine callsIn_wide.2 (radIter1 (h.below hW) h1 h2 ((hW.cell (p := ⟨bt, 0, none⟩) hblt).trans hbt) (cell_in hbi' rfl) (cell_in hbi' rfl) hbi' hnodes J Jx hJ hY h0)
theorem keepsFrom_of {W W' : World} {S : Nat → Prop} (B : Nat) (h : Chg S W W') (hs : ∀ k, S k → ∀ o, W.heap[k]? = some o → o.isCells = true) : KeepsFrom B W W' :=
  ⟨h.size, fun k o _ hk ho => h.keep hk fun hS => by rw [hs k hS o hk] at ho; cases ho⟩
theorem grown_keep {W W' : World} {row : Option Nat} (hg : W.grownBy W' row) (hr : ∀ r, row = some r → ∃ o : Obj, W.heap[r]? = some o ∧ o.isCells = false) {k : Nat} {cs : Array Value} {E : TypeId} {fz : Nat × Nat} (hk : W.heap[k]? = some (.cells cs E fz)) : W'.heap[k]? = some (.cells cs E fz) := by
  rw [hg.block k (heap_lt hk) (fun e => by
    obtain ⟨o, ho, hc⟩ := hr k e.symm
    rw [hk] at ho; cases ho; cases hc)]
  exact hk
theorem grown_slice {W W' : World} {row : Option Nat} (hg : W.grownBy W' row) (hr : ∀ r, row = some r → ∃ o : Obj, W.heap[r]? = some o ∧ o.isCells = false) {B : Nat} {e : TypeId} {z n : Nat} {v : Value} {xs : List Value} (h : SliceN W B e z v n xs) : SliceN W' B e z v n xs := by
  refine ⟨h.1, h.2.imp id ?_⟩
  rintro ⟨g, cap, cur, rfl, h2, ⟨fz, h3, h4⟩, h5⟩
  exact ⟨g, cap, cur, rfl, h2, ⟨fz, h3, grown_keep hg hr h4⟩, h5⟩
theorem grown_below {W W' w : World} {row : Option Nat} {n₀ B : Nat} (hb : Below n₀ w W) (hg : W.grownBy W' row) (hr : ∀ r, row = some r → B ≤ r) (hn : n₀ ≤ B) (hs : n₀ ≤ W.heap.size) : Below n₀ w W' :=
  hb.trans ⟨hg.os, hg.tape, hg.output, hg.size, fun k hk => hg.block k (by omega) fun e => by have := hr k e.symm; omega⟩
/-- What all has collected. -/
def Got (w : World) (n₀ Bl : Nat) (pre : List (Nat × Nat × VT)) (W : World) : Prop :=
  Below n₀ w W ∧ n₀ ≤ W.heap.size ∧ ∃ v, W.heap[Bl]? = some (.cells #[v] 22 (0, 0)) ∧ SliceN W n₀ 25 2 v pre.length (pre.flatMap idC)
theorem Got.own (w : World) (n₀ Bl B : Nat) (hB : n₀ ≤ B) : OwnFrom B (Got w n₀ Bl) := by
  rintro pre W W' row ⟨h1, h2, v, h3, h4⟩ hg hr
  exact ⟨grown_below h1 hg (fun r e => (hr r e).1) hB h2, Nat.le_trans h2 hg.size, v, grown_keep hg (fun r e => (hr r e).2) h3, grown_slice hg (fun r e => (hr r e).2) h4⟩
/-- The loop's variable lies in a box. -/
def AxId (tm : Array Value) (x : Nat × Nat × VT) (a' : Act) (W : World) : Prop :=
  ∃ Bx, W.heap[Bx]? = some (.cells #[.int .u64 x.1, .int .u64 x.2.1] 25 (0, 0)) ∧ a' = { tmps := ((tm.setIfInBounds 10 (.agg #[.int .u64 x.1, .int .u64 x.2.1])).setIfInBounds 11 (vC x.2.2)).setIfInBounds 6 (.pointer (some ⟨Bx, 0, none⟩)), defers := [] }
theorem AxId.own (tm : Array Value) (x : Nat × Nat × VT) (a' : Act) (B : Nat) : OwnFrom B (fun (_ : Unit) W => AxId tm x a' W) := by
  rintro _ W W' row ⟨Bx, h1, h2⟩ hg hr
  exact ⟨Bx, grown_keep hg (fun r e => (hr r e).2) h1, h2⟩
theorem wpListIn_append_run {F : Fence} {n : Nat} {P : Program} {ops : Array Oper} {Q : Exit → Act → World → Prop} {rest : List Oper} {o : Oper} {a : Act} {w w' : World} {s x : Operand} {t u : TypeId} {v : Value} (hg : o.guard = none)
    (hop : o.op = .call { callee := .builtin .append, args := #[s, x], argTypes := #[t, u] }) (hr : (Builtin.append_ #[t, u] o.type #[a.eval s, a.eval x]).run P w = .ok v w')
    (h : wpListIn F n P ops Q rest (a.put o.dst v) w') : wpListIn F n P ops Q (o :: rest) a w := by
  refine wpListIn_plain hg fun K hK' => ?_
  unfold Oper.wpIn
  refine ⟨?_, ?_⟩
  · simp [Oper.about, hop, resolve, Target.leads, Sem.run_pure]
  · rw [Oper.semAt_plain F _ _ (by rw [hop]; intro c hc'; cases hc')]
    rw [exec_append hop hr]
    exact hK' _ _ h
set_option maxHeartbeats 3200000 in
set_option maxRecDepth 100000 in
theorem lall {w : World} {p ms seq n : Nat} {G : Nat → Prop} {T : Option RT} (h : TreeF w p G T n) (h1 : ms < 18446744073709551616) (h2 : seq < 18446744073709551616) (hnodes : nodesO T ≤ 1000000) :
    Calls Try.prog 12 #[.pointer (some ⟨p, 0, none⟩), .agg #[.int .u64 ms, .int .u64 seq]] w fun e w' => ∃ v, e = .returned v ∧ SliceN w' w.heap.size 25 2 v (toldL T (idBytes ms seq)).length ((toldL T (idBytes ms seq)).flatMap idC) ∧ Below w.heap.size w w' := by
  have HF := Lib.hid (fun w => radFrom w p ms seq)
  obtain ⟨w2, hw2⟩ : ∃ w2, w2 = (w.alloc (.cells #[.int .u64 ms, .int .u64 seq] 25)).alloc (.cells #[.slice none 0 0] 22) := ⟨_, rfl⟩
  have hs2 : w2.heap.size = w.heap.size + 2 := by rw [hw2]; simp
  have hb2 : Below w.heap.size w w2 := by rw [hw2]; exact ((Below.refl _ _).alloc (Nat.le_refl _) _).alloc (by simp) _
  have hl2 : w2.heap[w.heap.size + 1]? = some (.cells #[.slice none 0 0] 22 (0, 0)) := by
    rw [hw2]
    have := heap_new (w.alloc (.cells #[.int .u64 ms, .int .u64 seq] 25)) (.cells #[.slice none 0 0] 22)
    rw [World.size_alloc] at this
    exact this
  obtain ⟨w3, hw3⟩ : ∃ w3, w3 = (w2.alloc (.cells #[.pointer (some ⟨p, 0, none⟩)] 27)).alloc (.cells #[.int .u64 ms, .int .u64 seq] 25) := ⟨_, rfl⟩
  have hb3 : Below w.heap.size w w3 := by rw [hw3]; exact (hb2.alloc (by omega) _).alloc (by simp; omega) _
  have hs3 : w3.heap.size = w.heap.size + 4 := by rw [hw3]; simp [hs2]
  have hl3 : w3.heap[w.heap.size + 1]? = some (.cells #[.slice none 0 0] 22 (0, 0)) := by rw [hw3]; exact heap_old (heap_old hl2 _) _
  have hbt3 : w3.cell? ⟨w2.heap.size, 0, none⟩ = some (.pointer (some ⟨p, 0, none⟩)) := by rw [hw3]; exact cell_in (heap_old (heap_new _ _) _) rfl
  have hbi3 : w3.heap[w2.heap.size + 1]? = some (.cells #[.int .u64 ms, .int .u64 seq] 25 (0, 0)) := by
    rw [hw3]
    have := heap_new (w2.alloc (.cells #[.pointer (some ⟨p, 0, none⟩)] 27)) (.cells #[.int .u64 ms, .int .u64 seq] 25)
    rw [World.size_alloc] at this
    exact this
  rw [hs2] at hbt3 hbi3
  have HSeq := Lib.hid (radStops (h.below hb3) h1 h2 hbt3 hbi3 hnodes 2)
  have HG0 := Lib.hid (show Got w w.heap.size (w.heap.size + 1) [] w3 from ⟨hb3, by omega, _, hl3, SliceN.nil _ _ _ _⟩)
  have HW2 := Lib.hid hw2
  have HW3 := Lib.hid (And.intro hw3 hs3)
  have hN : (toldL T (idBytes ms seq)).length ≤ 1000000 := by
    have h1 := List.length_filter_le (fun p : List UInt8 × VT => !decide (p.1 < idBytes ms seq)) (itemsO T)
    have h2 : (itemsO T).length ≤ nodesO T := by
      cases T with
      | none => simp [itemsO, nodesO]
      | some t => exact items_le
    unfold toldL fromL
    rw [List.length_map]
    omega
  clear h hb2 hl2 hb3 hl3 hbt3 hbi3 h1 h2 hnodes hw2 hw3 hs3
  obtain ⟨tm, htm⟩ : ∃ tm : Array Value, tm = #[.pointer (some ⟨p, 0, none⟩), .agg #[.int .u64 ms, .int .u64 seq], undef, .pointer (some ⟨w.heap.size, 0, none⟩), .slice none 0 0, .pointer (some ⟨w.heap.size + 1, 0, none⟩), undef, .pointer (some ⟨p, 0, none⟩), .agg #[.int .u64 ms, .int .u64 seq], .func (.func 24) #[] #[.pointer (some ⟨w.heap.size + 2, 0, none⟩), .pointer (some ⟨w.heap.size + 2 + 1, 0, none⟩)], undef, undef, undef, undef, undef, undef, undef] := ⟨_, rfl⟩
  have HTm := Lib.hid htm
  clear htm
  refine callsIn_wide.1 (callsIn_of_wp_marks (n := 3) Try.func12 rfl trivial ?_ rfl)
  refine wpIn_wide.2 ?_
  simp only [Try.ntmps12, List.size_toArray, List.length_cons, List.length_nil, Nat.reduceAdd, Nat.reduceSub, Array.replicate_succ, Array.replicate_zero, List.push_toArray, List.append_toArray, List.nil_append, List.cons_append]
  go_wp2_with fail
  rw [← HW2.out]
  refine (HF.out w2).mono ?_
  rintro e w' ⟨rfl, hw'⟩
  obtain rfl : w' = w3 := hw'.trans HW3.out.1.symm
  clear hw'
  go_wp2_with fail
  refine (wpIn_wide (n := 3)).1 ?_
  refine wpIn_rangeFunc_ownH (F := Fence.wide) rfl (by omega) (gf := 24) (lb := #[.pointer (some ⟨w.heap.size + 2, 0, none⟩), .pointer (some ⟨w.heap.size + 2 + 1, 0, none⟩)]) rfl trivial (fun args w => rfl) HSeq.out KeepE.trans (fun W l o o' _ hl ho _ => KeepE.putObj W l o o' hl ho) (Below.refl _ _) (fun _ => rfl)
    (Got w w.heap.size (w.heap.size + 1)) (fun _ _ _ => False) (Got.own _ _ _ _ (by have := HW3.out.2; omega)) (fun _ _ _ _ _ hs _ _ => hs) HG0.out (AxId tm) (fun x a' => AxId.own tm x a' _) ?assign ?body ?done ?stop
  case stop =>
    rintro D c pre W _ _ h _
    exact h.elim
  case assign =>
    intro l pre x W K hI hK
    have HI := Lib.hid hI
    unfold encs
    clear hI
    gi_wp2
    refine hK _ _ ((KeepsOthers.alloc _ _).from _) ?_ ?_ ⟨W.heap.size, heap_new _ _, ?_⟩
    · exact KeepE.chg (S := fun _ => False) (Chg.alloc _ _ _) fun _ _ _ h => h.elim
    · obtain ⟨i1, i2, v, i3, i4⟩ := HI.out
      have hb : Below W.heap.size W (W.alloc (.cells #[.int .u64 x.1, .int .u64 x.2.1] 25)) := (Below.refl _ _).alloc (Nat.le_refl _) _
      exact ⟨i1.trans (hb.mono i2), Nat.le_trans i2 hb.size, v, heap_old i3 _, i4.below hb⟩
    · rw [HTm.out]; rfl
  case body =>
    rintro l pre x a' W _ _ hI ⟨Bx, hx, rfl⟩ hlen
    obtain ⟨i1, i2, v, i3, i4⟩ := hI
    have x0 := cell_in hx (i := 0) rfl
    have x1 := cell_in hx (i := 1) rfl
    have l0 := cell_in i3 (i := 0) rfl
    have hpl : pre.length + 1 ≤ 1000001 := by omega
    obtain ⟨i0, g1, g2, g3, g4⟩ := info_parts info_id
    obtain ⟨v', W2, hr, s2, c2, hv2⟩ := run_append_oneN (P := Try.prog) (t := 22) (ty := 22) (z := 2) (w := W) Try.underlying22 g1 g2 g3 g4 rfl i4 i2 [.int .u64 x.1, .int .u64 x.2.1] rfl (by simp [Value.oneCell']) (by unfold maxLen; omega) (by omega)
    obtain ⟨av, cv, rfl, _, _⟩ := i4.form
    obtain ⟨av', cv', rfl, _, _⟩ := s2.form
    have HR := Lib.hid hr
    have hvb : ∀ g, vblock (.slice av pre.length cv) = some g → w.heap.size ≤ g ∧ g < W.heap.size ∧ ∃ cur fz, W.heap[g]? = some (.cells cur 25 fz) := fun g hg => by
      refine ⟨(i4.block_lt hg).1, (i4.block_lt hg).2, ?_⟩
      obtain ⟨g', cap, cur, he, _, ⟨fz, _, hh⟩, _⟩ := i4.2.resolve_left (fun h => by rw [h.1] at hg; cases hg)
      cases he
      cases hg
      exact ⟨cur, fz, hh⟩
    have hne : vblock (.slice av pre.length cv) ≠ some (w.heap.size + 1) := fun e => by
      obtain ⟨_, _, cur, fz, hh⟩ := hvb _ e
      rw [i3] at hh; cases hh
    have hl2 : W2.heap[w.heap.size + 1]? = some (.cells #[.slice av pre.length cv] 22 (0, 0)) := c2.keep i3 hne
    have m0 := cell_in hl2 (i := 0) rfl
    have mf := frozen_in hl2 0
    obtain ⟨W3, hW3⟩ : ∃ W3, W3 = W2.setCell ⟨w.heap.size + 1, 0, none⟩ (.slice av' (pre.length + 1) cv') := ⟨_, rfl⟩
    have hl3 : W3.heap[w.heap.size + 1]? = some (.cells #[.slice av' (pre.length + 1) cv'] 22 (0, 0)) := by rw [hW3]; exact setCell_head hl2 0 _
    have h23 : Chg (fun j => j = w.heap.size + 1) W2 W3 := by rw [hW3]; exact Chg.setCell _ _ _ _ rfl
    have hc : Chg (fun j => vblock (.slice av pre.length cv) = some j ∨ j = w.heap.size + 1) W W3 := (c2.mono fun j hj _ => .inl hj).trans h23 fun j hj _ => .inr hj
    have HFin := Lib.hid (show ownPostG w'.heap.size KeepE (Got w w.heap.size (w.heap.size + 1)) (fun _ _ _ => False) (pre ++ [x]) W .normal { tmps := #[], defers := [] } W3 from by
      refine ⟨keepsFrom_of _ hc fun k hk o ho => ?_, KeepE.chg hc fun k cs fz hk he => ?_, belowChg i1 hc i2 fun k hk hlt => ?_, Nat.le_trans i2 hc.size, _, hl3, ?_⟩
      · rcases hk with hk | rfl
        · obtain ⟨_, _, cur, fz, hh⟩ := hvb k hk
          rw [hh] at ho; cases ho; rfl
        · rw [i3] at ho; cases ho; rfl
      · rcases hk with hk | rfl
        · obtain ⟨_, _, cur, fz', hh⟩ := hvb k hk
          rw [hh] at he; cases he
        · rw [i3] at he; cases he
      · rcases hk with hk | rfl
        · exact (hvb k hk).1
        · omega
      · have := s2.chg h23 fun j hj e => ?_
        · simpa [idC] using this
        · subst e
          rcases hv2 with h | ⟨g', h, h'⟩
          · exact hne (h.symm.trans hj)
          · rw [hj] at h; cases h
            have := heap_lt i3; omega)
    have HW3' := Lib.hid hW3
    have HLen := Lib.hid hpl
    rw [HTm.out]
    clear hr i1 i3 i4 hx s2 c2 hv2 hvb hne hl2 hW3 hl3 h23 hc g1 g2 g3 g4
    simp only [List.setIfInBounds_toArray, List.set_cons_succ, List.set_cons_zero]
    gi_wp2_with (gi_at_builtin; refine wpListIn_append_run rfl rfl HR.out ?_)
    rw [← HW3'.out]
    exact HFin.out
  case done =>
    rintro D xs W hD rfl hI hK
    obtain ⟨i1, i2, v, i3, i4⟩ := hI
    have l0 := cell_in i3 (i := 0) rfl
    have HI := Lib.hid (And.intro i1 (And.intro i2 (And.intro i3 i4)))
    clear i1 i2 i3 i4
    go_wp2_with fail
    refine ⟨by simp, .inl ⟨_, _, rfl, run_takeDeferred hK, ?_⟩⟩
    refine ⟨_, results_tmp rfl _ _ _, ?_⟩
    obtain ⟨i1, i2, i3, i4⟩ := HI.out
    have hg := grownBy_putObj' W D (.deferred none)
    have hr : ∀ r, some D = some r → ∃ o : Obj, W.heap[r]? = some o ∧ o.isCells = false := fun r e => by cases e; exact ⟨_, hK, rfl⟩
    exact ⟨_, rfl, grown_slice hg hr i4, grown_below i1 hg (fun r e => by cases e; have := HW3.out.2; omega) (Nat.le_refl _) i2⟩
end Go.Proofs.Ytbjpfnafhhbmaaa.Rad
