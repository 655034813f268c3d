/- The row of the law PackParses, and its card: for every input of at most 1048576 values and letters the Go function returns true and its arguments read as before, out of the walk packParses_walk. The library's variables that the row lists hold what the program's text lays (the card's tie, given). -/
import Derived.Test.YtfbhddllimfdlaaDoorMPackParses1
import Derived.Laws.EntriesVeiled
import Derived.Test.YtfbhddllimfdlaaDoorRows
import Derived.Test.YtfbhddllimfdlaaDoorMB1
import Derived.Stop.LaidErr
import Derived.Lib.LaidTab
import Derived.LaidLaws
import Derived.Test.YtfbhddllimfdlaaDoorCards
import Derived.Test.YtfbhddllimfdlaaDoorTie
import Derived.WalkKit
import Derived.ProofKit
import Derived.OpenShut
import Derived.ShutString
import Derived.ChangeOld
import Derived.Below
import Derived.SizedLaws
import Derived.Laws.Cover2
import Derived.Lib.SmallJoins
import Derived.Deep.Slices
import Derived.Deep.SlicePairs
import Derived.SliceStrings
import Derived.JoinedCond
import Derived.Deep.DeepHandedRow
/- The law's told. -/
namespace Go.Proofs.YtfbhddllimfdlaaDoor
set_option linter.unusedVariables false
set_option linter.unusedSimpArgs false
open Go.RowKit
attribute [local go_sem] Oper.semAt_some
def sndV (x : Nat × ByteArray) : Value := .string x.2
theorem grown_sliceP {W W' : World} {row : Option Nat} (hg : W.grownBy W' row) (hr : ∀ r, row = some r → ∃ o : Obj, W.heap[r]? = some o ∧ o.isCells = false) {B n : Nat} {e : TypeId} {v : Value} {xs : List Value} (h : SliceIs W B e v n xs) : SliceIs W' B e v n xs := by
  refine ⟨h.1, h.2.imp id ?_⟩
  rintro ⟨g, cap, cur, rfl, h2, ⟨fz, h3, h4⟩, h5⟩
  exact ⟨g, cap, cur, rfl, h2, ⟨fz, h3, grown_keepP hg hr h4⟩, h5⟩
theorem wpListIn_append_runP {F : Fence} {n : Nat} {P : Program} {ops : Array Oper} {Q : Exit → Act → World → Prop} {rest : List Oper} {o : Oper} {a : Act} {w w' : World} {s x : Operand} {t u : TypeId} {v : Value} (hg : o.guard = none)
    (hop : o.op = .call { callee := .builtin .append, args := #[s, x], argTypes := #[t, u] }) (hr : (Builtin.append_ #[t, u] o.type #[a.eval s, a.eval x]).run P w = .ok v w')
    (h : wpListIn F n P ops Q rest (a.put o.dst v) w') : wpListIn F n P ops Q (o :: rest) a w := by
  refine wpListIn_plain hg fun K hK' => ?_
  unfold Oper.wpIn
  refine ⟨?_, ?_⟩
  · simp [Oper.about, hop, resolve, Target.leads, Sem.run_pure]
  · rw [Oper.semAt_plain F _ _ (by rw [hop]; intro c hc'; cases hc')]
    rw [exec_append hop hr]
    exact hK' _ _ h
/-- Between two rounds. -/
structure ToldI (w : World) (n0 mo : Nat) (pre : List (Nat × ByteArray)) (W : World) : Prop where
  below : Below n0 w W
  size : n0 ≤ W.heap.size
  b0 : W.heap[n0]? = some (.cells #[.int .i64 mo] 3 (0, 0))
  b1 : W.heap[n0 + 1]? = some (.cells #[.slice none 0 0] 35 (0, 0))
  b2 : W.heap[n0 + 1 + 1]? = some (.cells #[.bool false] 4 (0, 0))
  got : ∃ v, W.heap[n0 + 1 + 1 + 1]? = some (.cells #[v] 35 (0, 0)) ∧ SliceIs W n0 9 v pre.length (pre.map sndV)
  few : pre.length ≤ mo
theorem ToldI.own (w : World) (n0 mo B : Nat) (hB : n0 ≤ B) : OwnFrom B (ToldI w n0 mo) := by
  rintro pre W W' row h hg hr
  have hr2 := fun r e => (hr r e).2
  obtain ⟨v, h1, h2⟩ := h.got
  exact ⟨grown_belowP h.below hg (fun r e => (hr r e).1) hB h.size, Nat.le_trans h.size hg.size, grown_keepP hg hr2 h.b0, grown_keepP hg hr2 h.b1, grown_keepP hg hr2 h.b2, ⟨v, grown_keepP hg hr2 h1, grown_sliceP hg hr2 h2⟩, h.few⟩
def ToldX (w : World) (n0 mo : Nat) (c : Code) (pre : List (Nat × ByteArray)) (W : World) : Prop := (c = .exit 0 ∧ ∃ pre0 x, pre = pre0 ++ [x] ∧ pre0.length = mo ∧ ToldI w n0 mo pre0 W) ∨ (c = .ret ∧ ∃ pre0 x, pre = pre0 ++ [x] ∧ x.1 ≠ pre0.length)
theorem ToldX.own (w : World) (n0 mo B : Nat) (hB : n0 ≤ B) (c : Code) : OwnFrom B (ToldX w n0 mo c) := by
  rintro pre W W' row (⟨h1, p0, x, h2, h3, h4⟩ | h) hg hr
  · exact .inl ⟨h1, p0, x, h2, h3, ToldI.own w n0 mo B hB p0 W W' row h4 hg hr⟩
  · exact .inr h
theorem SliceIs.from_ {w : World} {B n : Nat} {e : TypeId} {v : Value} {xs : List Value} (h : SliceIs w 0 e v n xs) (hb : ∀ g, vblock v = some g → B ≤ g) : SliceIs w B e v n xs := by
  refine ⟨h.1, h.2.imp id ?_⟩
  rintro ⟨g, cap, cur, rfl, _, h3⟩
  exact ⟨g, cap, cur, rfl, hb g rfl, h3⟩
theorem told_texts {L : List ByteArray} {pre : List (Nat × ByteArray)} (h : pre <+: toldP L) : pre.map sndV = (L.take pre.length).map strV := by
  obtain ⟨t, ht⟩ := h
  have h1 : pre = (toldP L).take pre.length := by rw [← ht, List.take_left]
  have h2 : (toldP L).map sndV = L.map strV := by
    apply List.ext_getElem
    · simp
    · intro i h3 h4
      simp only [List.length_map, toldP_length] at h3
      simp [toldP, sndV, strV, List.getD, h3]
  conv => lhs; rw [h1]
  rw [List.map_take, h2, List.map_take]
theorem told_end {w W : World} {n0 mo D : Nat} {L : List ByteArray} {pre : List (Nat × ByteArray)} {a : Option Addr} {c : Nat} (hI : ToldI w n0 mo pre W) (hp : pre <+: toldP L) (hn : pre.length = (L.take mo).length) (hv : W.heap[n0 + 1 + 1 + 1]? = some (.cells #[.slice a pre.length c] 35 (0, 0))) (hs : SliceIs W n0 9 (.slice a pre.length c) pre.length (pre.map sndV)) (hD : n0 ≤ D) (hK : W.heap[D]? = some (.deferred (some []))) :
    let WF := (W.setCell ⟨n0 + 1, 0, none⟩ (.slice a pre.length c)).setCell ⟨n0 + 1 + 1, 0, none⟩ (.bool true)
    WF.heap[D]? = some (.deferred (some [])) ∧ Below n0 w (WF.putObj D (.deferred none)) ∧ (WF.putObj D (.deferred none)).cell? ⟨n0 + 1, 0, none⟩ = some (.slice a pre.length c) ∧ (WF.putObj D (.deferred none)).cell? ⟨n0 + 1 + 1, 0, none⟩ = some (.bool true) ∧
      SliceIs (WF.putObj D (.deferred none)) n0 9 (.slice a pre.length c) (L.take mo).length ((L.take mo).map strV) := by
  intro WF
  have hc1 : Chg (fun k => k = n0 + 1) W (W.setCell ⟨n0 + 1, 0, none⟩ (.slice a pre.length c)) := Chg.setCell _ _ _ _ rfl
  have h1 := setCell_head hI.b1 0 (.slice a pre.length c)
  have h2 : (W.setCell ⟨n0 + 1, 0, none⟩ (.slice a pre.length c)).heap[n0 + 1 + 1]? = some (.cells #[.bool false] 4 (0, 0)) := hc1.keep hI.b2 (by omega)
  have hc2 : Chg (fun k => k = n0 + 1 + 1) (W.setCell ⟨n0 + 1, 0, none⟩ (.slice a pre.length c)) WF := Chg.setCell _ _ _ _ rfl
  have h3 : WF.heap[n0 + 1 + 1]? = _ := setCell_head h2 0 (.bool true)
  have h4 : WF.heap[n0 + 1]? = _ := hc2.keep h1 (by omega)
  have hc : Chg (fun k => k = n0 + 1 ∨ k = n0 + 1 + 1) W WF := (hc1.mono fun j hj _ => .inl hj).trans hc2 fun j hj _ => .inr hj
  have hne1 : D ≠ n0 + 1 := fun e => by subst e; rw [hI.b1] at hK; cases hK
  have hne2 : D ≠ n0 + 1 + 1 := fun e => by subst e; rw [hI.b2] at hK; cases hK
  have hK' : WF.heap[D]? = some (.deferred (some [])) := hc.keep hK fun h => h.elim hne1 hne2
  have hg := grownBy_putObj' WF D (.deferred none)
  have hr : ∀ r, some D = some r → ∃ o : Obj, WF.heap[r]? = some o ∧ o.isCells = false := fun r e => by cases e; exact ⟨_, hK', rfl⟩
  have hB : Below n0 w WF := belowChg hI.below hc hI.size fun k hk _ => by omega
  refine ⟨hK', grown_belowP hB hg (fun r e => by cases e; exact hD) (Nat.le_refl _) (Nat.le_trans hI.size hc.size), cell_in (grown_keepP hg hr h4) rfl, cell_in (grown_keepP hg hr h3) rfl, ?_⟩
  have hs2 : SliceIs WF n0 9 (.slice a pre.length c) pre.length (pre.map sndV) := hs.chg hc fun k hk he => by
    obtain ⟨g, cap, cur, e1, _, ⟨fz, _, hh⟩, _⟩ := hs.2.resolve_left (fun h => by rw [h.1] at hk; cases hk)
    cases e1
    cases hk
    rcases he with rfl | rfl
    · rw [hI.b1] at hh; cases hh
    · rw [hI.b2] at hh; cases hh
  have e : pre.map sndV = (L.take mo).map strV := by
    rw [told_texts hp, hn, List.length_take]
    congr 1
    rcases Nat.le_total mo L.length with h | h
    · rw [Nat.min_eq_left h]
    · rw [Nat.min_eq_right h, List.take_length, List.take_of_length_le h]
  rw [e] at hs2
  exact (grown_sliceP hg hr hs2).lenEq hn
set_option maxHeartbeats 6400000 in
set_option maxRecDepth 100000 in
theorem told_any {w : World} {p : Nat} {F : Nat → Prop} {L : List ByteArray} (h : PackF w p F L) (hl : Laid w) (mo : Nat) (hmo : mo ≤ 1073741824) :
    Calls Tryd.prog 53 #[.pointer (some ⟨p, 0, none⟩), .int .i64 mo] w fun e w' => (∃ v, e = .returned (.tuple #[v, .bool true]) ∧ SliceIs w' w.heap.size 9 v (L.take mo).length ((L.take mo).map strV)) ∧ Below w.heap.size w w' := by
  have HA := Lib.hid (fun w => packAll w p)
  obtain ⟨g, cap, cur, hrw, _⟩ := h
  obtain ⟨M, hM⟩ : ∃ M, L.take mo = M := ⟨_, rfl⟩
  rw [hM]
  have HM := Lib.hid hM
  clear hM
  obtain ⟨w4, hw4⟩ : ∃ w4, w4 = (((w.alloc (Obj.cells #[Value.int IntKind.i64 mo] 3)).alloc (Obj.cells #[Value.slice none 0 0] 35)).alloc (Obj.cells #[Value.bool false] 4)).alloc (Obj.cells #[Value.slice none 0 0] 35) := ⟨_, rfl⟩
  have hs4 : w4.heap.size = w.heap.size + 4 := by rw [hw4]; simp
  have hb4 : Below w.heap.size w w4 := by rw [hw4]; exact ((((Below.refl w.heap.size w).alloc (Nat.le_refl _) _).alloc (by simp) _).alloc (by simp; omega) _).alloc (by simp; omega) _
  obtain ⟨w5, hw5⟩ : ∃ w5, w5 = w4.alloc (.cells #[.pointer (some ⟨p, 0, none⟩)] 25) := ⟨_, rfl⟩
  have hs5 : w5.heap.size = w.heap.size + 5 := by rw [hw5]; simp [hs4]
  have hb5 : Below w.heap.size w w5 := by rw [hw5]; exact hb4.alloc (by omega) _
  have hbp : w5.cell? ⟨w4.heap.size, 0, none⟩ = some (.pointer (some ⟨p, 0, none⟩)) := by rw [hw5]; exact cell_in (heap_new _ _) rfl
  have hI0 : ToldI w w.heap.size mo [] w5 := by
    have e1 := heap_new w (Obj.cells #[Value.int IntKind.i64 mo] 3)
    have e2 := heap_new (w.alloc (Obj.cells #[Value.int IntKind.i64 mo] 3)) (Obj.cells #[Value.slice none 0 0] 35)
    have e3 := heap_new ((w.alloc (Obj.cells #[Value.int IntKind.i64 mo] 3)).alloc (Obj.cells #[Value.slice none 0 0] 35)) (Obj.cells #[Value.bool false] 4)
    have e4 := heap_new (((w.alloc (Obj.cells #[Value.int IntKind.i64 mo] 3)).alloc (Obj.cells #[Value.slice none 0 0] 35)).alloc (Obj.cells #[Value.bool false] 4)) (Obj.cells #[Value.slice none 0 0] 35)
    simp only [World.size_alloc] at e2 e3 e4
    refine ⟨hb5, by omega, ?_, ?_, ?_, ⟨.slice none 0 0, ?_, SliceIs.nil _ _ _⟩, Nat.zero_le _⟩ <;> rw [hw5, hw4]
    · exact heap_old (heap_old (heap_old (heap_old e1 _) _) _) _
    · exact heap_old (heap_old (heap_old e2 _) _) _
    · exact heap_old (heap_old e3 _) _
    · exact heap_old e4 _
  have HSeq := Lib.hid (packStops hl rfl hb5 (by omega) (hrw.chg (Chg.of_below (fun _ => False) hb5) id id) hbp 2)
  have HI0 := Lib.hid hI0
  have HW4 := Lib.hid hw4
  have HW5 := Lib.hid (And.intro hw5 hs5)
  have HMany := Lib.hid hrw.ok.many
  clear hw4 hw5 hs4 hb4 hs5 hb5 hbp hI0 hrw hl
  obtain ⟨tm, htm⟩ : ∃ tm : Array Value, tm = #[.pointer (some ⟨p, 0, none⟩), .int .i64 mo, undef, .pointer (some ⟨w.heap.size, 0, none⟩), .pointer (some ⟨w.heap.size + 1, 0, none⟩), .pointer (some ⟨w.heap.size + 1 + 1, 0, none⟩), .pointer (some ⟨w.heap.size + 1 + 1 + 1, 0, none⟩), undef, undef, .pointer (some ⟨p, 0, none⟩), .func (.func 99) #[] #[.pointer (some ⟨w4.heap.size, 0, none⟩)], undef, undef, undef, undef, undef, undef, undef, undef, undef, undef, undef, undef, undef, undef, undef] := ⟨_, rfl⟩
  have HTm := Lib.hid htm
  clear htm
  refine callsIn_wide.1 (callsIn_of_wp_marks (n := 3) Tryd.func53 rfl trivial ?_ rfl)
  refine wpIn_wide.2 ?_
  simp only [Tryd.ntmps53, List.size_toArray, List.length_cons, List.length_nil, Nat.reduceAdd, Nat.reduceSub, Array.replicate_succ, Array.replicate_zero, List.push_toArray, List.append_toArray, List.nil_append, List.cons_append]
  go_wp2_with fail
  rw [← HW4.out]
  refine (HA.out w4).mono ?_
  rintro en w' ⟨rfl, hw'⟩
  obtain rfl : w' = w5 := hw'.trans HW5.out.1.symm
  clear hw'
  go_wp2_with fail
  refine (wpIn_wide (n := 3)).1 ?_
  refine wpIn_rangeFunc_ownH (F := Fence.wide) rfl (by omega) (gf := 99) (lb := #[.pointer (some ⟨w4.heap.size, 0, none⟩)]) rfl trivial (fun args w => rfl) HSeq.out KeepP.trans (fun W l o o' hle hl ho _ => KeepP.putObj W l o o' (by have := HW5.out.2; omega) hl ho) (Below.refl _ _) (fun _ => rfl)
    (ToldI w w.heap.size mo) (ToldX w w.heap.size mo) (ToldI.own _ _ _ _ (by have := HW5.out.2; omega)) (fun c => ToldX.own _ _ _ _ (by have := HW5.out.2; omega) c) HI0.out (fun x a' _ => a' = { tmps := (((tm.setIfInBounds 11 (.int .i64 x.1)).setIfInBounds 12 (.string x.2)).setIfInBounds 7 (.int .i64 x.1)).setIfInBounds 8 (.string x.2), defers := [] }) (fun x a' => fun _ _ _ _ h _ _ => h) ?assign ?body ?done ?stop
  case assign =>
    intro l pre x W K hI hK
    have HI := Lib.hid hI
    clear hI
    unfold encP
    gi_wp2
    refine hK _ _ (KeepsFrom.refl _ _) (KeepP.of_below (Below.refl _ _) HI.out.size) HI.out ?_
    rw [HTm.out]; rfl
  case body =>
    rintro l pre x a' W _ _ hI rfl hlen
    have HI := Lib.hid hI
    obtain ⟨v, g1, g2⟩ := hI.got
    obtain ⟨av, cv, rfl, hAv⟩ := g2.arg
    have x0 := cell_in hI.b0 (i := 0) rfl
    have x1 := cell_in hI.b1 (i := 0) rfl
    have x2 := cell_in hI.b2 (i := 0) rfl
    have x3 := cell_in g1 (i := 0) rfl
    have f1 := frozen_in hI.b1 0
    have f2 := frozen_in hI.b2 0
    have f3 := frozen_in g1 0
    have hlc := hAv.1
    have hpl : pre.length ≤ 1048576 := by have := HMany.out; rw [toldP_length] at hlen; omega
    rw [HTm.out]
    simp only [List.setIfInBounds_toArray, List.set_cons_succ, List.set_cons_zero]
    by_cases hx : x.1 = pre.length
    · have hxd : ((x.1 : Int) != (pre.length : Int)) = false := by rw [bne_eq_false_iff_eq]; omega
      by_cases hm : mo ≤ pre.length
      · have hmd : decide ((mo : Int) ≤ (pre.length : Int)) = true := decide_eq_true (by omega)
        have HB := Lib.hid (show ownPostG w'.heap.size (KeepP w.heap.size w'.heap.size g) (ToldI w w.heap.size mo) (ToldX w w.heap.size mo) (pre ++ [x]) W (.exit 0) { tmps := #[], defers := [] } W from
          ⟨KeepsFrom.refl _ _, .inl ⟨rfl, pre, x, rfl, by have := hI.few; omega, hI⟩⟩)
        clear hI g1 g2 hAv
        gi_wp2
        exact HB.out
      · have hmd : decide ((mo : Int) ≤ (pre.length : Int)) = false := decide_eq_false (by omega)
        obtain ⟨i0, k1, k2, k3, k4⟩ := info_parts info_str
        obtain ⟨v', W2, hr, s2, c2, hv2⟩ := run_append_own1 (P := Tryd.prog) (t := 35) (ty := 35) Tryd.underlying35 k1 k2 k3 k4 rfl (g2.mono_any (Nat.zero_le _)) (.string x.2) rfl (by unfold maxLen; omega) (by omega)
        obtain ⟨av', cv', rfl, hAv'⟩ := s2.arg
        have HR := Lib.hid hr
        have hvb : ∀ j, vblock (.slice av pre.length cv) = some j → w.heap.size ≤ j ∧ j < W.heap.size ∧ ∃ cur fz, W.heap[j]? = some (.cells cur 9 fz) := fun j hj => by
          refine ⟨(g2.block_lt hj).1, (g2.block_lt hj).2, ?_⟩
          obtain ⟨g', cap, cur, he, _, ⟨fz, _, hh⟩, _⟩ := g2.2.resolve_left (fun h => by rw [h.1] at hj; cases hj)
          cases he
          cases hj
          exact ⟨cur, fz, hh⟩
        have hne : ∀ (k : Nat) (cs : Array Value) (E : TypeId) (fz : Nat × Nat), W.heap[k]? = some (.cells cs E fz) → E ≠ 9 → vblock (.slice av pre.length cv) ≠ some k := fun k cs E fz hk hE e => by
          obtain ⟨_, _, cur, fz', hh⟩ := hvb _ e
          rw [hk] at hh; cases hh; exact hE rfl
        have hl2 : W2.heap[w.heap.size + 1 + 1 + 1]? = some (.cells #[.slice av pre.length cv] 35 (0, 0)) := c2.keep g1 (hne _ _ _ _ g1 (by decide))
        have m3 := cell_in hl2 (i := 0) rfl
        have mf := frozen_in hl2 0
        obtain ⟨W3, hW3⟩ : ∃ W3, W3 = W2.setCell ⟨w.heap.size + 1 + 1 + 1, 0, none⟩ (.slice av' (pre.length + 1) cv') := ⟨_, rfl⟩
        have hl3 : W3.heap[w.heap.size + 1 + 1 + 1]? = some (.cells #[.slice av' (pre.length + 1) cv'] 35 (0, 0)) := by rw [hW3]; exact setCell_head hl2 0 _
        have h23 : Chg (fun j => j = w.heap.size + 1 + 1 + 1) W2 W3 := by rw [hW3]; exact Chg.setCell _ _ _ _ rfl
        have hc : Chg (fun j => vblock (.slice av pre.length cv) = some j ∨ j = w.heap.size + 1 + 1 + 1) W W3 := (c2.mono fun j hj _ => .inl hj).trans h23 fun j hj _ => .inr hj
        have hkeep : ∀ (k : Nat) (cs : Array Value) (E : TypeId) (fz : Nat × Nat), W.heap[k]? = some (.cells cs E fz) → E ≠ 9 → E ≠ 35 → W3.heap[k]? = some (.cells cs E fz) := fun k cs E fz hk h1 h2 => hc.keep hk fun h => by
          rcases h with h | rfl
          · exact hne k cs E fz hk h1 h
          · rw [g1] at hk; cases hk; exact h2 rfl
        have hb3 : Below w.heap.size w W3 := belowChg hI.below hc hI.size fun k hk hlt => by
          rcases hk with hk | rfl
          · exact (hvb k hk).1
          · omega
        have HFin := Lib.hid (show ownPostG w'.heap.size (KeepP w.heap.size w'.heap.size g) (ToldI w w.heap.size mo) (ToldX w w.heap.size mo) (pre ++ [x]) W .normal { tmps := #[], defers := [] } W3 from by
          refine ⟨keepsFrom_ofP _ hc fun k hk o ho => ?_, ⟨belowChg (Below.refl _ _) hc hI.size fun k hk hlt => ?_, hc.size, fun cs fz e => hkeep _ _ _ _ e (by decide) (by decide), fun k cs fz _ e => hkeep _ _ _ _ e (by decide) (by decide)⟩, hb3, Nat.le_trans hI.size hc.size, hkeep _ _ _ _ hI.b0 (by decide) (by decide), hc.keep hI.b1 ?_, hkeep _ _ _ _ hI.b2 (by decide) (by decide), ⟨_, hl3, ?_⟩, ?_⟩
          · rcases hk with hk | rfl
            · obtain ⟨_, _, cur, fz, hh⟩ := hvb k hk
              rw [hh] at ho; cases ho; rfl
            · rw [g1] at ho; cases ho; rfl
          · rcases hk with hk | rfl
            · exact (hvb k hk).1
            · omega
          · rintro (h | h)
            · exact hne _ _ _ _ hI.b1 (by decide) h
            · omega
          · rw [List.length_append, List.length_singleton, List.map_append]
            refine SliceIs.from_ (s2.chg h23 fun j hj e => ?_) fun j hj => ?_
            · subst e
              rcases hv2 with h | ⟨k, h, hk⟩
              · exact hne _ _ _ _ g1 (by decide) (h.symm.trans hj)
              · rw [h] at hj; cases hj; have := heap_lt g1; omega
            · rcases hv2 with h | ⟨k, h, hk⟩
              · exact (hvb j (h.symm.trans hj)).1
              · rw [h] at hj; cases hj; have := hI.size; omega
          · rw [List.length_append, List.length_singleton]; omega)
        have HW3' := Lib.hid hW3
        clear hr hI g1 g2 s2 c2 hv2 hvb hne hl2 hW3 hl3 h23 hc hkeep hb3 k1 k2 k3 k4 hAv hAv'
        gi_wp2_with (gi_at_builtin; refine wpListIn_append_runP rfl rfl HR.out ?_)
        rw [← HW3'.out]
        exact HFin.out
    · have hxd : ((x.1 : Int) != (pre.length : Int)) = true := by rw [bne_iff_ne]; omega
      have hc1 : Chg (fun k => k = w.heap.size + 1) W (W.setCell ⟨w.heap.size + 1, 0, none⟩ (.slice none 0 0)) := Chg.setCell _ _ _ _ rfl
      have h2 : (W.setCell ⟨w.heap.size + 1, 0, none⟩ (.slice none 0 0)).heap[w.heap.size + 1 + 1]? = some (.cells #[.bool false] 4 (0, 0)) := hc1.keep hI.b2 (by omega)
      have y2 := cell_in h2 (i := 0) rfl
      have e2 := frozen_in h2 0
      have hc : Chg (fun k => k = w.heap.size + 1 ∨ k = w.heap.size + 1 + 1) W ((W.setCell ⟨w.heap.size + 1, 0, none⟩ (.slice none 0 0)).setCell ⟨w.heap.size + 1 + 1, 0, none⟩ (.bool false)) := (hc1.mono fun j hj _ => .inl hj).trans (Chg.setCell (fun k => k = w.heap.size + 1 + 1) _ _ _ rfl) fun j hj _ => .inr hj
      have HFin := Lib.hid (show ownPostG w'.heap.size (KeepP w.heap.size w'.heap.size g) (ToldI w w.heap.size mo) (ToldX w w.heap.size mo) (pre ++ [x]) W .ret { tmps := #[], defers := [] } ((W.setCell ⟨w.heap.size + 1, 0, none⟩ (.slice none 0 0)).setCell ⟨w.heap.size + 1 + 1, 0, none⟩ (.bool false)) from
        ⟨keepsFrom_ofP _ hc fun k hk o ho => by
          rcases hk with rfl | rfl
          · rw [hI.b1] at ho; cases ho; rfl
          · rw [hI.b2] at ho; cases ho; rfl, .inr ⟨rfl, pre, x, rfl, hx⟩⟩)
      clear hI g1 g2 hAv hc1 h2 hc
      gi_wp2
      exact HFin.out
  case done =>
    rintro D xs W hD rfl hI hK
    obtain ⟨v, g1, g2⟩ := hI.got
    obtain ⟨av, cv, rfl, hAv⟩ := g2.arg
    have hlen : (toldP L).length = (L.take mo).length := by have := hI.few; rw [toldP_length] at this ⊢; rw [List.length_take]; omega
    have HE := Lib.hid (told_end hI (List.prefix_refl _) hlen g1 g2 (by have := HW5.out.2; omega) hK)
    rw [HM.out] at HE
    have x1 := cell_in hI.b1 (i := 0) rfl
    have x2 := cell_in hI.b2 (i := 0) rfl
    have x3 := cell_in g1 (i := 0) rfl
    have f1 := frozen_in hI.b1 0
    have f2 := frozen_in hI.b2 0
    clear hI g1 g2 hAv hK hlen
    generalize (toldP L).length = n at *
    go_wp2_with fail
    refine ⟨by simp, .inl ⟨_, _, rfl, run_takeDeferred HE.out.1, ?_⟩⟩
    refine ⟨.tuple #[.slice av n cv, .bool true], ?_, ⟨_, rfl, HE.out.2.2.2.2⟩, HE.out.2.1⟩
    have h1 := HE.out.2.2.1
    have h2 := HE.out.2.2.2.1
    simp [results, Tryd.results53, go_sem, h1, h2]
  case stop =>
    rintro D c pre W hD hpre hX hK
    rcases hX with ⟨rfl, p0, x, rfl, h3, hI⟩ | ⟨rfl, p0, x, rfl, h3⟩
    · obtain ⟨v, g1, g2⟩ := hI.got
      obtain ⟨av, cv, rfl, hAv⟩ := g2.arg
      have hp0 : p0 <+: toldP L := (List.prefix_append _ _).trans hpre
      have hlt := pre_ltP hpre
      have hlen : p0.length = (L.take mo).length := by rw [toldP_length] at hlt; rw [List.length_take]; omega
      have HE := Lib.hid (told_end hI hp0 hlen g1 g2 (by have := HW5.out.2; omega) hK)
      rw [HM.out] at HE
      have x1 := cell_in hI.b1 (i := 0) rfl
      have x2 := cell_in hI.b2 (i := 0) rfl
      have x3 := cell_in g1 (i := 0) rfl
      have f1 := frozen_in hI.b1 0
      have f2 := frozen_in hI.b2 0
      clear hI g1 g2 hAv hK hlen hp0 hlt hpre h3
      generalize p0.length = n at *
      gi_wp2
      go_wp2_with fail
      refine ⟨by simp, .inl ⟨_, _, rfl, run_takeDeferred HE.out.1, ?_⟩⟩
      refine ⟨.tuple #[.slice av n cv, .bool true], ?_, ⟨_, rfl, HE.out.2.2.2.2⟩, HE.out.2.1⟩
      have h1 := HE.out.2.2.1
      have h2 := HE.out.2.2.2.1
      simp [results, Tryd.results53, go_sem, h1, h2]
    · exfalso
      apply h3
      obtain ⟨t, ht⟩ := hpre
      have hlt : p0.length < (toldP L).length := by rw [← ht]; simp
      have e : (toldP L)[p0.length]? = some x := by rw [← ht]; simp
      rw [List.getElem?_eq_getElem hlt] at e
      have e2 := Option.some.inj e
      rw [← e2]
      simp [toldP]
end Go.Proofs.YtfbhddllimfdlaaDoor

/- The law's looks. -/
namespace Go.Proofs.YtfbhddllimfdlaaDoor
set_option linter.unusedVariables false
set_option linter.unusedSimpArgs false
open Go.RowKit
set_option maxHeartbeats 6400000 in
set_option maxRecDepth 100000 in
theorem looks_any {w : World} {p r : Nat} {F G : Nat → Prop} {L : List ByteArray} (hP : PackF w p F L) (hR : RefP w r G L) (hl : Laid w) (he : ∀ x ∈ L, x.size ≤ 65536) (hz : sizeP L ≤ 900000000) (hn : L.length ≤ 1048576) :
    Calls Tryd.prog 13 #[.pointer (some ⟨p, 0, none⟩), .pointer (some ⟨r, 0, none⟩)] w fun e w' => e = .returned (.bool true) ∧ Below w.heap.size w w' := by
  have HL1 := Lib.hid (packLen hP)
  have HL2 := Lib.hid (refpLen hR)
  have HS1 := Lib.hid (packSize hP)
  have HS2 := Lib.hid (refpSize hR he (by omega) (by omega))
  have HB1 := Lib.hid (fun w' (hb : Below w.heap.size w w') => packBytes (hP.below hb))
  have HB2 := Lib.hid (fun w' (hb : Below w.heap.size w w') => refpBytes (hR.below hb) he hz (by omega))
  obtain ⟨big, hbig⟩ : ∃ big : Nat, big = 1073741824 := ⟨_, rfl⟩
  have hbi : ((big : Nat) : Int) = 1073741824 := by omega
  have HT1 := Lib.hid (fun w' (hb : Below w.heap.size w w') => told_any (hP.below hb) (hl.below hb) big (by omega))
  have HT2 := Lib.hid (fun w' (hb : Below w.heap.size w w') => told_any (hP.below hb) (hl.below hb) 2 (by omega))
  rw [hbi, List.take_of_length_le (show L.length ≤ big by omega)] at HT1
  rw [show ((2 : Nat) : Int) = 2 from rfl] at HT2
  obtain ⟨v, h1, h2, _⟩ := hR
  obtain ⟨av, cap, rfl, h3⟩ := texts_of_slice h2
  have hshape : (av = none ∧ L.length = 0 ∧ cap = 0) ∨ ∃ g, av = some ⟨g, 0, none⟩ := by
    rcases h2.2 with ⟨e, e2⟩ | ⟨g, c', cur, e, _, hrow, _⟩
    · injection e with e3 e4 e5
      exact .inl ⟨e3, e2, e5⟩
    · injection e with e3 e4 e5
      exact .inr ⟨g, e3⟩
  have c0 := cell_in h1 (i := 0) rfl
  have hrl := heap_lt h1
  have hlc := h3.1
  have HA := Lib.hid h3
  obtain ⟨k2, hk2⟩ : ∃ k2, min 2 L.length = k2 := ⟨_, rfl⟩
  have ht2l : (L.take 2).length = k2 := by rw [List.length_take]; exact hk2
  have ht2 : ∀ i, i < k2 → (L.take 2).getD i ByteArray.empty = L.getD i ByteArray.empty := fun i hi => by
    simp [List.getD, List.getElem?_take_of_lt (show i < 2 by omega)]
  have HA2 := Lib.hid (show ∀ w', Below w.heap.size w w' → ArgRow w' av k2 cap (fun i => .string ((L.take 2).getD i ByteArray.empty)) from fun w' hb => by
    have h4 := h3.belowT hb
    refine ⟨by have := h4.1; omega, ?_⟩
    rcases h4.2 with h | ⟨b, o, e, hc⟩
    · exact .inl (by omega)
    · exact .inr ⟨b, o, e, fun i hi => by
        show w'.cell? ⟨b, o + i, none⟩ = some (.string ((L.take 2).getD i ByteArray.empty))
        rw [ht2 i hi]; exact hc i (by omega)⟩)
  rw [ht2l] at HT2
  have HK := Lib.hid ht2l
  obtain ⟨T, hT⟩ : ∃ T, L.take 2 = T := ⟨_, rfl⟩
  rw [hT] at HT2 HA2 HK
  obtain ⟨E, hE⟩ : ∃ E, strOf (packL L) = E := ⟨_, rfl⟩
  rw [hE] at HB1 HB2
  obtain ⟨z, hzz⟩ : ∃ z, sizeP L = z := ⟨_, rfl⟩
  rw [hzz] at HS1 HS2 hz
  obtain ⟨n, hnn⟩ : ∃ n, L.length = n := ⟨_, rfl⟩
  have HN := Lib.hid hnn
  rw [hnn] at HL1 HL2 hlc c0 hshape hn hk2 HT1
  have hEe : (E.toList == E.toList) = true := beq_self_eq_true _
  have hEn : (E.toList != E.toList) = false := by simp
  have hnn1 : ((n : Int) != (n : Int)) = false := by simp
  have hzz1 : ((z : Int) != (z : Int)) = false := by simp
  clear hP hl he h1 h2 h3 hnn hzz hT hE ht2 ht2l hbig hbi
  go_enter Tryd.func13, Tryd.ntmps13
  go_wp2_with fail
  refine HL1.out.mono ?_
  rintro e w' ⟨rfl, rfl⟩
  go_wp2_with fail
  refine HL2.out.mono ?_
  rintro e w' ⟨rfl, rfl⟩
  go_wp2_with fail
  refine HS1.out.mono ?_
  rintro e w' ⟨rfl, rfl⟩
  go_wp2_with fail
  refine HS2.out.mono ?_
  rintro e w1 ⟨rfl, b1⟩
  have B1 := Lib.hid b1
  clear b1
  go_wp2_with fail
  refine (HB1.out _ B1.out).mono ?_
  rintro e w' ⟨rfl, rfl⟩
  go_wp2_with fail
  refine (HB2.out _ B1.out).mono ?_
  rintro e w2 ⟨rfl, b2⟩
  have B2 := Lib.hid (B1.out.trans (b2.mono B1.out.size))
  clear b2
  go_wp2_with fail
  refine (HT1.out _ B2.out).mono ?_
  rintro e w3 ⟨⟨v3, rfl, s3⟩, b3⟩
  have B3 := Lib.hid (B2.out.trans (b3.mono B2.out.size))
  obtain ⟨a3, c3, rfl, ha3⟩ := texts_of_slice s3
  have HA3 := Lib.hid ha3
  clear b3 s3 ha3
  go_wp2_with fail
  refine (HT2.out _ B3.out).mono ?_
  rintro e w4 ⟨⟨v4, rfl, s4⟩, b4⟩
  have B4 := Lib.hid (B3.out.trans (b4.mono B3.out.size))
  have HA3' := Lib.hid (HA3.out.belowT b4)
  obtain ⟨a4, c4, rfl, ha4⟩ := texts_of_slice s4
  have HA4 := Lib.hid ha4
  clear b4 s4 ha4
  have hmin : (min 2 (n : Int)).toNat = k2 := by omega
  obtain ⟨X1, f, hX1, hf, hF⟩ := classOf (fun y => y.cell? ⟨r, 0, none⟩ = some (.slice av n cap)) ((B4.out.cell (p := ⟨r, 0, none⟩) hrl).trans c0)
  have HF := Lib.hid (fun w' (hb : Below w4.heap.size w4 w') => hF w' (((B4.out.trans (hb.mono B4.out.size)).cell (p := ⟨r, 0, none⟩) hrl).trans c0))
  have H0 := Lib.hid (HF.out _ (belowN (Below.refl _ _) 1))
  have hc1 := sameTexts_any (w4.drewN 1) a3 av n n c3 cap L L HN.out HN.out (HA3'.out.belowT (belowN (Below.refl _ _) 1)) (HN.out ▸ HA.out.belowT (belowN B4.out 1)) (by omega)
  rw [decide_eq_true rfl] at hc1
  have HC1 := Lib.hid hc1
  have HT := Lib.hid (show ∀ w', Below w4.heap.size w4 w' → Calls Tryd.prog 18 #[.slice a4 k2 c4, .slice av k2 cap] w' fun e w'' => e = .returned (.bool true) ∧ ∃ k, w'' = w'.drewN k from fun w' hb => by
    have h := sameTexts_any w' a4 av k2 k2 c4 cap T T HK.out HK.out (HA4.out.belowT hb) (HA2.out _ (B4.out.trans (hb.mono B4.out.size))) (by omega)
    rw [decide_eq_true rfl] at h
    exact h)
  clear hF hc1 HT1 HT2 HB1 HB2 HS1 HS2 HL1 HL2
  rcases hshape with ⟨rfl, rfl, rfl⟩ | ⟨g, rfl⟩
  · obtain rfl : k2 = 0 := by omega
    go_wp2_with fail
    refine wp_region_text ⟨[10, 25], [], 28⟩ (fun w' => ∃ y : X1, w' = f y) (by kernel_rfl) (by kernel_rfl) H0.out ?_
    refine wpC_seg false (H0.out) 10 0 _ _ (by rfl) (by rfl) ?_
    simp only [List.take_succ_cons, List.take_zero, List.drop_succ_cons, List.drop_zero, Bool.false_eq_true, if_false, Nat.zero_add, Nat.reduceAdd]
    repeat (go_big_quiet_step (fail))
    refine wpQuiet_nil ?_
    refine wpC_loud (by rfl) (by rfl) fun K hK => ?_
    go_wp2_with fail
    refine HC1.out.mono ?_
    rintro e w5 ⟨rfl, m5, rfl⟩
    have H5 := Lib.hid (HF.out _ (belowN (belowN (Below.refl _ _) 1) m5))
    have HC2 := Lib.hid (HT.out _ (belowN (Below.refl _ _) (1 + m5)))
    refine hK _ _ (fun _ => H5.out) ?_
    clear hK
    refine wpC_seg false (H5.out) 14 11 _ _ (by rfl) (by rfl) ?_
    simp only [List.take_succ_cons, List.take_zero, List.drop_succ_cons, List.drop_zero, Bool.false_eq_true, if_false, Nat.zero_add, Nat.reduceAdd]
    repeat (go_big_quiet_step (fail))
    refine wpQuiet_nil ?_
    refine wpC_loud (by rfl) (by rfl) fun K hK => ?_
    go_wp2_with fail
    try rw [hmin]
    refine HC2.out.mono ?_
    rintro e w6 ⟨rfl, m6, rfl⟩
    have H6 := Lib.hid (HF.out _ (belowN (belowN (Below.refl _ _) (1 + m5)) m6))
    refine hK _ _ (fun _ => H6.out) ?_
    clear hK
    refine wpC_seg false (H6.out) 2 26 _ _ (by rfl) (by rfl) ?_
    simp only [List.take_succ_cons, List.take_zero, List.drop_succ_cons, List.drop_zero, Bool.false_eq_true, if_false, Nat.zero_add, Nat.reduceAdd]
    repeat (go_big_quiet_step (fail))
    refine wpQuiet_nil ?_
    refine wpC_nil ?_
    clear hf hX1 HF H0 H5 H6 HC1 HC2
    go_wp2_with fail
    go_ret
    first
      | exact ⟨rfl, belowN (belowN B4.out (1 + m5)) m6⟩
      | exact ⟨rfl, belowN B4.out (1 + m5 + m6)⟩
      | exact ⟨rfl, belowN (belowN (belowN B4.out 1) m5) m6⟩
  · by_cases h2 : n < 2
    · obtain rfl : k2 = n := by omega
      have hlt : (k2 : Int) < 2 := by omega
      go_wp2_with fail
      refine wp_region_text ⟨[10, 25], [], 28⟩ (fun w' => ∃ y : X1, w' = f y) (by kernel_rfl) (by kernel_rfl) H0.out ?_
      refine wpC_seg false (H0.out) 10 0 _ _ (by rfl) (by rfl) ?_
      simp only [List.take_succ_cons, List.take_zero, List.drop_succ_cons, List.drop_zero, Bool.false_eq_true, if_false, Nat.zero_add, Nat.reduceAdd]
      repeat (go_big_quiet_step (fail))
      refine wpQuiet_nil ?_
      refine wpC_loud (by rfl) (by rfl) fun K hK => ?_
      go_wp2_with fail
      refine HC1.out.mono ?_
      rintro e w5 ⟨rfl, m5, rfl⟩
      have H5 := Lib.hid (HF.out _ (belowN (belowN (Below.refl _ _) 1) m5))
      have HC2 := Lib.hid (HT.out _ (belowN (Below.refl _ _) (1 + m5)))
      refine hK _ _ (fun _ => H5.out) ?_
      clear hK
      refine wpC_seg false (H5.out) 14 11 _ _ (by rfl) (by rfl) ?_
      simp only [List.take_succ_cons, List.take_zero, List.drop_succ_cons, List.drop_zero, Bool.false_eq_true, if_false, Nat.zero_add, Nat.reduceAdd]
      repeat (go_big_quiet_step (fail))
      refine wpQuiet_nil ?_
      refine wpC_loud (by rfl) (by rfl) fun K hK => ?_
      go_wp2_with fail
      try rw [hmin]
      refine HC2.out.mono ?_
      rintro e w6 ⟨rfl, m6, rfl⟩
      have H6 := Lib.hid (HF.out _ (belowN (belowN (Below.refl _ _) (1 + m5)) m6))
      refine hK _ _ (fun _ => H6.out) ?_
      clear hK
      refine wpC_seg false (H6.out) 2 26 _ _ (by rfl) (by rfl) ?_
      simp only [List.take_succ_cons, List.take_zero, List.drop_succ_cons, List.drop_zero, Bool.false_eq_true, if_false, Nat.zero_add, Nat.reduceAdd]
      repeat (go_big_quiet_step (fail))
      refine wpQuiet_nil ?_
      refine wpC_nil ?_
      clear hf hX1 HF H0 H5 H6 HC1 HC2
      go_wp2_with fail
      go_ret
      first
        | exact ⟨rfl, belowN (belowN B4.out (1 + m5)) m6⟩
        | exact ⟨rfl, belowN B4.out (1 + m5 + m6)⟩
        | exact ⟨rfl, belowN (belowN (belowN B4.out 1) m5) m6⟩
    · obtain rfl : k2 = 2 := by omega
      have hlt : ¬ (n : Int) < 2 := by omega
      have h2c : (2 : Int) ≤ (cap : Int) := by omega
      go_wp2_with fail
      refine wp_region_text ⟨[10, 25], [], 28⟩ (fun w' => ∃ y : X1, w' = f y) (by kernel_rfl) (by kernel_rfl) H0.out ?_
      refine wpC_seg false (H0.out) 10 0 _ _ (by rfl) (by rfl) ?_
      simp only [List.take_succ_cons, List.take_zero, List.drop_succ_cons, List.drop_zero, Bool.false_eq_true, if_false, Nat.zero_add, Nat.reduceAdd]
      repeat (go_big_quiet_step (fail))
      refine wpQuiet_nil ?_
      refine wpC_loud (by rfl) (by rfl) fun K hK => ?_
      go_wp2_with fail
      refine HC1.out.mono ?_
      rintro e w5 ⟨rfl, m5, rfl⟩
      have H5 := Lib.hid (HF.out _ (belowN (belowN (Below.refl _ _) 1) m5))
      have HC2 := Lib.hid (HT.out _ (belowN (Below.refl _ _) (1 + m5)))
      refine hK _ _ (fun _ => H5.out) ?_
      clear hK
      refine wpC_seg false (H5.out) 14 11 _ _ (by rfl) (by rfl) ?_
      simp only [List.take_succ_cons, List.take_zero, List.drop_succ_cons, List.drop_zero, Bool.false_eq_true, if_false, Nat.zero_add, Nat.reduceAdd]
      repeat (go_big_quiet_step (fail))
      refine wpQuiet_nil ?_
      refine wpC_loud (by rfl) (by rfl) fun K hK => ?_
      go_wp2_with fail
      try rw [hmin]
      refine HC2.out.mono ?_
      rintro e w6 ⟨rfl, m6, rfl⟩
      have H6 := Lib.hid (HF.out _ (belowN (belowN (Below.refl _ _) (1 + m5)) m6))
      refine hK _ _ (fun _ => H6.out) ?_
      clear hK
      refine wpC_seg false (H6.out) 2 26 _ _ (by rfl) (by rfl) ?_
      simp only [List.take_succ_cons, List.take_zero, List.drop_succ_cons, List.drop_zero, Bool.false_eq_true, if_false, Nat.zero_add, Nat.reduceAdd]
      repeat (go_big_quiet_step (fail))
      refine wpQuiet_nil ?_
      refine wpC_nil ?_
      clear hf hX1 HF H0 H5 H6 HC1 HC2
      go_wp2_with fail
      go_ret
      first
        | exact ⟨rfl, belowN (belowN B4.out (1 + m5)) m6⟩
        | exact ⟨rfl, belowN B4.out (1 + m5 + m6)⟩
        | exact ⟨rfl, belowN (belowN (belowN B4.out 1) m5) m6⟩
end Go.Proofs.YtfbhddllimfdlaaDoor

/- The pack and the document's one side by side. -/
namespace Go.Proofs.YtfbhddllimfdlaaDoor
set_option linter.unusedVariables false
set_option linter.unusedSimpArgs false
open Go.RowKit
/-- Both hold the same texts, in blocks of their own from B on. -/
def PairP (w : World) (B p r : Nat) (L : List ByteArray) : Prop :=
  ∃ F G, PackF w p F L ∧ RefP w r G L ∧ (∀ k, F k → ¬ G k) ∧ (∀ k, F k → B ≤ k) ∧ (∀ k, G k → B ≤ k)
theorem PairP.below {w w' : World} {B p r : Nat} {L : List ByteArray} (h : PairP w B p r L) (hb : Below w.heap.size w w') : PairP w' B p r L := by
  obtain ⟨F, G, h1, h2, h3⟩ := h
  exact ⟨F, G, h1.below hb, h2.below hb, h3⟩
/-- One step of the pack, then the same step of the document's. -/
theorem pair_step {w w1 w2 : World} {B p r : Nat} {F F1 G G2 : Nat → Prop} {L' : List ByteArray} (hB : B ≤ w.heap.size) (hd : ∀ k, F k → ¬ G k) (bF : ∀ k, F k → B ≤ k) (bG : ∀ k, G k → B ≤ k) (hG : ∀ k, G k → k < w.heap.size)
    (h1 : PackF w1 p F1 L') (f1 : Fresh w F F1) (c1 : Chg F w w1) (h2 : RefP w2 r G2 L') (f2 : Fresh w1 G G2) (c2 : Chg G w1 w2) :
    PairP w2 B p r L' ∧ Below B w w2 := by
  have hs := c1.size
  have d1 : ∀ k, F1 k → ¬ G k := fun k hk hg => by
    rcases f1 k hk with h | h
    · exact hd k h hg
    · have := hG k hg; omega
  have b1 : Below B w w1 := belowChg (Below.refl _ _) c1 hB fun k hk _ => bF k hk
  refine ⟨⟨F1, G2, h1.chg c2 d1, h2, fun k hk hg => ?_, fun k hk => ?_, fun k hk => ?_⟩, belowChg b1 c2 (by omega) fun k hk _ => bG k hk⟩
  · rcases f2 k hg with h | h
    · exact d1 k hk h
    · have := h1.lt hk; omega
  · rcases f1 k hk with h | h
    · exact bF k h
    · omega
  · rcases f2 k hk with h | h
    · exact bG k h
    · omega
/-- What stands there behind an op. -/
theorem ins_grows {L : List ByteArray} (ok : OKL L) {a : Int} {s : ByteArray} : OKL (insP L a s).2 ∧ sizeP (insP L a s).2 ≤ sizeP L + 65600 := by
  unfold insP
  split
  · exact ⟨ok, by simp⟩
  · next h1 =>
    split
    · exact ⟨ok, by simp⟩
    · next h2 =>
      split
      · exact ⟨ok, by simp⟩
      · next h3 =>
        have hi : a.toNat ≤ L.length := by omega
        have hel := entL_length s (by omega)
        have hz := sizeP_cut (L := L) (M := [s]) (Nat.le_refl a.toNat) hi
        have hb : bodyL [s] = entL s := by rw [bodyL_cons, bodyL_nil, List.append_nil]
        rw [hb] at hz
        exact ⟨ok_ins ok hi (by omega) (by omega) (by omega), by simp only; omega⟩
end Go.Proofs.YtfbhddllimfdlaaDoor

/- The law's asked. -/
namespace Go.Proofs.YtfbhddllimfdlaaDoor
set_option linter.unusedVariables false
set_option linter.unusedSimpArgs false
open Go.RowKit
def AskedP (w : World) (B p r : Nat) (L : List ByteArray) (e : Ending) (w' : World) : Prop :=
  e = .returned (.bool true) ∧ ∃ L', OKL L' ∧ sizeP L' ≤ sizeP L + 65600 ∧ PairP w' B p r L' ∧ Below B w w'
set_option maxHeartbeats 3200000 in
set_option maxRecDepth 100000 in
theorem asked_ins {w : World} {B p r : Nat} {L : List ByteArray} (hp : PairP w B p r L) (hB : B ≤ w.heap.size) (hl : Laid w) (a d : Int) (t : ByteArray) (ha : -9223372036854775808 ≤ a ∧ a ≤ 9223372036854775807) (ht : t.size ≤ 1048576) :
    Calls Tryd.prog 14 #[.pointer (some ⟨p, 0, none⟩), .pointer (some ⟨r, 0, none⟩), .agg #[.int .u8 1, .int .i64 a, .int .i64 d, .string t]] w fun e w' => AskedP w B p r L e w' := by
  obtain ⟨F, G, hP, hR, hd, bF, bG⟩ := hp
  have ok := hP.ok
  have hg := ins_grows (a := a) (s := t) ok
  obtain ⟨w1, hw1⟩ : ∃ w1, w1 = w.alloc (.cells #[.int .u8 1, .int .i64 a, .int .i64 d, .string t] 23) := ⟨_, rfl⟩
  have hb1 : Below w.heap.size w w1 := by rw [hw1]; exact (Below.refl _ _).alloc (Nat.le_refl _) _
  have hh1 : w1.heap[w.heap.size]? = some (.cells #[.int .u8 1, .int .i64 a, .int .i64 d, .string t] 23 (0, 0)) := by rw [hw1]; exact heap_new _ _
  have x0 := cell_in hh1 (i := 0) rfl
  have x1 := cell_in hh1 (i := 1) rfl
  have x3 := cell_in hh1 (i := 3) rfl
  have hbl := heap_lt hh1
  obtain ⟨X1, f, hX1, hf, hF⟩ := classOf (fun y => y.cell? ⟨w.heap.size, 1, none⟩ = some (.int .i64 a) ∧ y.cell? ⟨w.heap.size, 3, none⟩ = some (.string t)) ⟨x1, x3⟩
  have hf1 := fun x => (hf x).1
  have hf2 := fun x => (hf x).2
  have HF := Lib.hid (fun w' (h : w'.heap[w.heap.size]? = some (.cells #[.int .u8 1, .int .i64 a, .int .i64 d, .string t] 23 (0, 0))) => hF w' ⟨cell_in h rfl, cell_in h rfl⟩)
  have hb2 : Below w.heap.size w (w1.drewN 1) := belowN hb1 1
  have H0 := Lib.hid (HF.out (w1.drewN 1) (((belowN (Below.refl w1.heap.size w1) 1).block _ hbl).trans hh1))
  have HP1 := Lib.hid (packInsert (hP.below hb2) (hl.below hb2) a ha t (by omega))
  have HR1 := Lib.hid (hR.below hb2)
  have HH := Lib.hid hh1
  have HW := Lib.hid hw1
  have HG := Lib.hid hg
  have HB1 := Lib.hid hb1
  have HD := Lib.hid (And.intro hd (And.intro bF (And.intro bG (show (∀ k, G k → k < w.heap.size) ∧ (∀ k, F k → k < w.heap.size) from ⟨fun k hk => hR.lt hk, fun k hk => hP.lt hk⟩))))
  have HOk := Lib.hid ok
  have hsz1 : w.heap.size ≤ (w1.drewN 1).heap.size := hb2.size
  clear hP hR hd bF bG ok hg hw1 hb1 hh1 x1 x3 hF hf hb2 hl
  go_enter Tryd.func14, Tryd.ntmps14
  go_upto_region 1 with (fail)
  rw [← HW.out]
  go_wp2_with fail
  refine wp_region_text ⟨[5, 11], [12, 13], 11⟩ (fun w' => ∃ y : X1, w' = f y) (by kernel_rfl) (by kernel_rfl) H0.out ?_
  refine wpC_seg false (H0.out) 5 0 _ _ (by rfl) (by rfl) ?_
  simp only [List.take_succ_cons, List.take_zero, List.drop_succ_cons, List.drop_zero, Bool.false_eq_true, if_false, Nat.zero_add, Nat.reduceAdd]
  repeat (go_big_quiet_step (fail))
  refine wpQuiet_nil ?_
  refine wpC_loud (by rfl) (by rfl) fun K hK => ?_
  go_wp2_with fail
  refine HP1.out.mono ?_
  rintro e w2 ⟨rfl, ⟨F2, p2, fr2⟩, c2⟩
  have HP2 := Lib.hid (And.intro p2 (And.intro fr2 c2))
  have H2 := Lib.hid (HF.out w2 (c2.keep (((belowN (Below.refl w1.heap.size w1) 1).block _ hbl).trans HH.out) fun h => by have := HD.out.2.2.2.2 _ h; omega))
  have HR2 := Lib.hid (refpInsert (HR1.out.chg c2 fun k hk h => HD.out.1 k h hk) HOk.out a ha t (by omega))
  refine hK _ _ (fun _ => H2.out) ?_
  clear hK p2 fr2 c2
  refine wpC_seg false (H2.out) 5 6 _ _ (by rfl) (by rfl) ?_
  simp only [List.take_succ_cons, List.take_zero, List.drop_succ_cons, List.drop_zero, Bool.false_eq_true, if_false, Nat.zero_add, Nat.reduceAdd]
  repeat (go_big_quiet_step (fail))
  refine wpQuiet_nil ?_
  refine wpC_loud (by rfl) (by rfl) fun K hK => ?_
  go_wp2_with fail
  refine HR2.out.mono ?_
  rintro e w3 ⟨rfl, ⟨G3, r3, fr3⟩, c3⟩
  have HE := Lib.hid (pair_step (w := w1.drewN 1) (Nat.le_trans hB hsz1) HD.out.1 HD.out.2.1 HD.out.2.2.1 (fun k hk => Nat.lt_of_lt_of_le (HD.out.2.2.2.1 k hk) hsz1) HP2.out.1 HP2.out.2.1 HP2.out.2.2 r3 fr3 c3)
  refine hK _ _ (fun h => absurd h (by decide)) ?_
  clear hK r3 fr3 c3
  refine wpC_segD 2 12 _ _ (by rfl) (by rfl) ?_
  simp only [List.take_succ_cons, List.take_zero, List.drop_succ_cons, List.drop_zero, if_true, Nat.zero_add, Nat.reduceAdd]
  repeat (go_big_quiet_step (fail))
  refine wpQuiet_nil ?_
  refine wpC_nil ?_
  clear hf1 hf2 hX1 HF H0 H2
  go_wp2_with fail
  go_ret
  exact ⟨by simp, _, HG.out.1, HG.out.2, HE.out.1, ((belowN HB1.out 1).mono hB).trans HE.out.2⟩
end Go.Proofs.YtfbhddllimfdlaaDoor

/- The law's asked: a replacement, a deletion. -/
namespace Go.Proofs.YtfbhddllimfdlaaDoor
set_option linter.unusedVariables false
set_option linter.unusedSimpArgs false
open Go.RowKit
theorem set_grows {L : List ByteArray} (ok : OKL L) {a : Int} {s : ByteArray} : OKL (setP L a s).2 ∧ sizeP (setP L a s).2 ≤ sizeP L + 65600 := by
  unfold setP
  split
  · exact ⟨ok, by simp⟩
  · next h1 =>
    split
    · exact ⟨ok, by simp⟩
    · next h2 =>
      split
      · exact ⟨ok, by simp⟩
      · next h3 =>
        have hb2 : 0 ≤ placeN L.length a ∧ placeN L.length a < (L.length : Int) := by
          have : placeB L.length a = true := by simpa using h1
          unfold placeB at this
          simpa using this
        have hi : (placeN L.length a).toNat < L.length := by omega
        have hel := entL_length s (by omega)
        have hz := sizeP_cut (L := L) (M := [s]) (show (placeN L.length a).toNat ≤ (placeN L.length a).toNat + 1 by omega) (show (placeN L.length a).toNat + 1 ≤ L.length by omega)
        have hb : bodyL [s] = entL s := by rw [bodyL_cons, bodyL_nil, List.append_nil]
        rw [hb] at hz
        have hm := offL_mono (L := L) (show (placeN L.length a).toNat ≤ (placeN L.length a).toNat + 1 by omega)
        have hg : L.getD (placeN L.length a).toNat ByteArray.empty = L[(placeN L.length a).toNat] := by simp [List.getD, hi]
        rw [hg] at h3
        exact ⟨ok_set ok hi (by omega) (by omega), by simp only; omega⟩
theorem del_grows {L : List ByteArray} (ok : OKL L) {a d : Int} : OKL (delP L a d).2 ∧ sizeP (delP L a d).2 ≤ sizeP L + 65600 := by
  unfold delP
  split
  · exact ⟨ok, by simp⟩
  · next h1 =>
    have hij : a.toNat ≤ a.toNat + d.toNat := by omega
    have hj : a.toNat + d.toNat ≤ L.length := by omega
    have h := ok_del ok hij hj
    have hz := sizeP_cut (L := L) (M := []) hij hj
    have hm := offL_mono (L := L) hij
    rw [bodyL_nil, List.length_nil] at hz
    rw [List.append_nil] at h hz
    exact ⟨h, by simp only; omega⟩
set_option maxHeartbeats 3200000 in
set_option maxRecDepth 100000 in
theorem asked_set {w : World} {B p r : Nat} {L : List ByteArray} (hp : PairP w B p r L) (hB : B ≤ w.heap.size) (hl : Laid w) (a d : Int) (t : ByteArray) (ha : -9223372036854775808 ≤ a ∧ a ≤ 9223372036854775807) (ht : t.size ≤ 1048576) :
    Calls Tryd.prog 14 #[.pointer (some ⟨p, 0, none⟩), .pointer (some ⟨r, 0, none⟩), .agg #[.int .u8 2, .int .i64 a, .int .i64 d, .string t]] w fun e w' => AskedP w B p r L e w' := by
  obtain ⟨F, G, hP, hR, hd, bF, bG⟩ := hp
  have ok := hP.ok
  have hg := set_grows (a := a) (s := t) ok
  obtain ⟨w1, hw1⟩ : ∃ w1, w1 = w.alloc (.cells #[.int .u8 2, .int .i64 a, .int .i64 d, .string t] 23) := ⟨_, rfl⟩
  have hb1 : Below w.heap.size w w1 := by rw [hw1]; exact (Below.refl _ _).alloc (Nat.le_refl _) _
  have hh1 : w1.heap[w.heap.size]? = some (.cells #[.int .u8 2, .int .i64 a, .int .i64 d, .string t] 23 (0, 0)) := by rw [hw1]; exact heap_new _ _
  have x0 := cell_in hh1 (i := 0) rfl
  have x1 := cell_in hh1 (i := 1) rfl
  have x3 := cell_in hh1 (i := 3) rfl
  have hbl := heap_lt hh1
  obtain ⟨X1, f, hX1, hf, hF⟩ := classOf (fun y => y.cell? ⟨w.heap.size, 1, none⟩ = some (.int .i64 a) ∧ y.cell? ⟨w.heap.size, 3, none⟩ = some (.string t)) ⟨x1, x3⟩
  have hf1 := fun x => (hf x).1
  have hf2 := fun x => (hf x).2
  have HF := Lib.hid (fun w' (h : w'.heap[w.heap.size]? = some (.cells #[.int .u8 2, .int .i64 a, .int .i64 d, .string t] 23 (0, 0))) => hF w' ⟨cell_in h rfl, cell_in h rfl⟩)
  have hb2 : Below w.heap.size w (w1.drewN 1) := belowN hb1 1
  have H0 := Lib.hid (HF.out (w1.drewN 1) (((belowN (Below.refl w1.heap.size w1) 1).block _ hbl).trans hh1))
  have HP1 := Lib.hid (packSet (hP.below hb2) (hl.below hb2) a ha t (by omega))
  have HR1 := Lib.hid (hR.below hb2)
  have HH := Lib.hid hh1
  have HW := Lib.hid hw1
  have HG := Lib.hid hg
  have HB1 := Lib.hid hb1
  have HD := Lib.hid (And.intro hd (And.intro bF (And.intro bG (show (∀ k, G k → k < w.heap.size) ∧ (∀ k, F k → k < w.heap.size) from ⟨fun k hk => hR.lt hk, fun k hk => hP.lt hk⟩))))
  have HOk := Lib.hid ok
  have hsz1 : w.heap.size ≤ (w1.drewN 1).heap.size := hb2.size
  clear hP hR hd bF bG ok hg hw1 hb1 hh1 x1 x3 hF hf hb2 hl
  go_enter Tryd.func14, Tryd.ntmps14
  go_upto_region 1 with (fail)
  rw [← HW.out]
  go_wp2_with fail
  refine wp_region_text ⟨[5, 11], [12, 13], 11⟩ (fun w' => ∃ y : X1, w' = f y) (by kernel_rfl) (by kernel_rfl) H0.out ?_
  refine wpC_seg false (H0.out) 5 0 _ _ (by rfl) (by rfl) ?_
  simp only [List.take_succ_cons, List.take_zero, List.drop_succ_cons, List.drop_zero, Bool.false_eq_true, if_false, Nat.zero_add, Nat.reduceAdd]
  repeat (go_big_quiet_step (fail))
  refine wpQuiet_nil ?_
  refine wpC_loud (by rfl) (by rfl) fun K hK => ?_
  go_wp2_with fail
  refine HP1.out.mono ?_
  rintro e w2 ⟨rfl, ⟨F2, p2, fr2⟩, c2⟩
  have HP2 := Lib.hid (And.intro p2 (And.intro fr2 c2))
  have H2 := Lib.hid (HF.out w2 (c2.keep (((belowN (Below.refl w1.heap.size w1) 1).block _ hbl).trans HH.out) fun h => by have := HD.out.2.2.2.2 _ h; omega))
  have HR2 := Lib.hid (refpSet (HR1.out.chg c2 fun k hk h => HD.out.1 k h hk) HOk.out a ha t (by omega))
  refine hK _ _ (fun _ => H2.out) ?_
  clear hK p2 fr2 c2
  refine wpC_seg false (H2.out) 5 6 _ _ (by rfl) (by rfl) ?_
  simp only [List.take_succ_cons, List.take_zero, List.drop_succ_cons, List.drop_zero, Bool.false_eq_true, if_false, Nat.zero_add, Nat.reduceAdd]
  repeat (go_big_quiet_step (fail))
  refine wpQuiet_nil ?_
  refine wpC_loud (by rfl) (by rfl) fun K hK => ?_
  go_wp2_with fail
  refine HR2.out.mono ?_
  rintro e w3 ⟨rfl, ⟨G3, r3, fr3⟩, c3⟩
  have HE := Lib.hid (pair_step (w := w1.drewN 1) (Nat.le_trans hB hsz1) HD.out.1 HD.out.2.1 HD.out.2.2.1 (fun k hk => Nat.lt_of_lt_of_le (HD.out.2.2.2.1 k hk) hsz1) HP2.out.1 HP2.out.2.1 HP2.out.2.2 r3 fr3 c3)
  refine hK _ _ (fun h => absurd h (by decide)) ?_
  clear hK r3 fr3 c3
  refine wpC_segD 2 12 _ _ (by rfl) (by rfl) ?_
  simp only [List.take_succ_cons, List.take_zero, List.drop_succ_cons, List.drop_zero, if_true, Nat.zero_add, Nat.reduceAdd]
  repeat (go_big_quiet_step (fail))
  refine wpQuiet_nil ?_
  refine wpC_nil ?_
  clear hf1 hf2 hX1 HF H0 H2
  go_wp2_with fail
  go_ret
  exact ⟨by simp, _, HG.out.1, HG.out.2, HE.out.1, ((belowN HB1.out 1).mono hB).trans HE.out.2⟩
set_option maxHeartbeats 3200000 in
set_option maxRecDepth 100000 in
theorem asked_del {w : World} {B p r : Nat} {L : List ByteArray} (hp : PairP w B p r L) (hB : B ≤ w.heap.size) (hl : Laid w) (a d : Int) (t : ByteArray) (ha : -9223372036854775808 ≤ a ∧ a ≤ 9223372036854775807) (hdd : -9223372036854775808 ≤ d ∧ d ≤ 9223372036854775807) :
    Calls Tryd.prog 14 #[.pointer (some ⟨p, 0, none⟩), .pointer (some ⟨r, 0, none⟩), .agg #[.int .u8 3, .int .i64 a, .int .i64 d, .string t]] w fun e w' => AskedP w B p r L e w' := by
  obtain ⟨F, G, hP, hR, hd, bF, bG⟩ := hp
  have ok := hP.ok
  have hg := del_grows (a := a) (d := d) ok
  obtain ⟨w1, hw1⟩ : ∃ w1, w1 = w.alloc (.cells #[.int .u8 3, .int .i64 a, .int .i64 d, .string t] 23) := ⟨_, rfl⟩
  have hb1 : Below w.heap.size w w1 := by rw [hw1]; exact (Below.refl _ _).alloc (Nat.le_refl _) _
  have hh1 : w1.heap[w.heap.size]? = some (.cells #[.int .u8 3, .int .i64 a, .int .i64 d, .string t] 23 (0, 0)) := by rw [hw1]; exact heap_new _ _
  have x0 := cell_in hh1 (i := 0) rfl
  have x1 := cell_in hh1 (i := 1) rfl
  have x3 := cell_in hh1 (i := 2) rfl
  have hbl := heap_lt hh1
  obtain ⟨X1, f, hX1, hf, hF⟩ := classOf (fun y => y.cell? ⟨w.heap.size, 1, none⟩ = some (.int .i64 a) ∧ y.cell? ⟨w.heap.size, 2, none⟩ = some (.int .i64 d)) ⟨x1, x3⟩
  have hf1 := fun x => (hf x).1
  have hf2 := fun x => (hf x).2
  have HF := Lib.hid (fun w' (h : w'.heap[w.heap.size]? = some (.cells #[.int .u8 3, .int .i64 a, .int .i64 d, .string t] 23 (0, 0))) => hF w' ⟨cell_in h rfl, cell_in h rfl⟩)
  have hb2 : Below w.heap.size w (w1.drewN 1) := belowN hb1 1
  have H0 := Lib.hid (HF.out (w1.drewN 1) (((belowN (Below.refl w1.heap.size w1) 1).block _ hbl).trans hh1))
  have HP1 := Lib.hid (packDelete (hP.below hb2) (hl.below hb2) a d ha hdd)
  have HR1 := Lib.hid (hR.below hb2)
  have HH := Lib.hid hh1
  have HW := Lib.hid hw1
  have HG := Lib.hid hg
  have HB1 := Lib.hid hb1
  have HD := Lib.hid (And.intro hd (And.intro bF (And.intro bG (show (∀ k, G k → k < w.heap.size) ∧ (∀ k, F k → k < w.heap.size) from ⟨fun k hk => hR.lt hk, fun k hk => hP.lt hk⟩))))
  have HOk := Lib.hid ok
  have hsz1 : w.heap.size ≤ (w1.drewN 1).heap.size := hb2.size
  clear hP hR hd bF bG ok hg hw1 hb1 hh1 x1 x3 hF hf hb2 hl
  go_enter Tryd.func14, Tryd.ntmps14
  go_upto_region 1 with (fail)
  rw [← HW.out]
  go_wp2_with fail
  refine wp_region_text ⟨[5, 11], [12, 13], 11⟩ (fun w' => ∃ y : X1, w' = f y) (by kernel_rfl) (by kernel_rfl) H0.out ?_
  refine wpC_seg false (H0.out) 5 0 _ _ (by rfl) (by rfl) ?_
  simp only [List.take_succ_cons, List.take_zero, List.drop_succ_cons, List.drop_zero, Bool.false_eq_true, if_false, Nat.zero_add, Nat.reduceAdd]
  repeat (go_big_quiet_step (fail))
  refine wpQuiet_nil ?_
  refine wpC_loud (by rfl) (by rfl) fun K hK => ?_
  go_wp2_with fail
  refine HP1.out.mono ?_
  rintro e w2 ⟨rfl, ⟨F2, p2, fr2⟩, c2⟩
  have HP2 := Lib.hid (And.intro p2 (And.intro fr2 c2))
  have H2 := Lib.hid (HF.out w2 (c2.keep (((belowN (Below.refl w1.heap.size w1) 1).block _ hbl).trans HH.out) fun h => by have := HD.out.2.2.2.2 _ h; omega))
  have HR2 := Lib.hid (refpDelete (HR1.out.chg c2 fun k hk h => HD.out.1 k h hk) HOk.out a d ha hdd)
  refine hK _ _ (fun _ => H2.out) ?_
  clear hK p2 fr2 c2
  refine wpC_seg false (H2.out) 5 6 _ _ (by rfl) (by rfl) ?_
  simp only [List.take_succ_cons, List.take_zero, List.drop_succ_cons, List.drop_zero, Bool.false_eq_true, if_false, Nat.zero_add, Nat.reduceAdd]
  repeat (go_big_quiet_step (fail))
  refine wpQuiet_nil ?_
  refine wpC_loud (by rfl) (by rfl) fun K hK => ?_
  go_wp2_with fail
  refine HR2.out.mono ?_
  rintro e w3 ⟨rfl, ⟨G3, r3, fr3⟩, c3⟩
  have HE := Lib.hid (pair_step (w := w1.drewN 1) (Nat.le_trans hB hsz1) HD.out.1 HD.out.2.1 HD.out.2.2.1 (fun k hk => Nat.lt_of_lt_of_le (HD.out.2.2.2.1 k hk) hsz1) HP2.out.1 HP2.out.2.1 HP2.out.2.2 r3 fr3 c3)
  refine hK _ _ (fun h => absurd h (by decide)) ?_
  clear hK r3 fr3 c3
  refine wpC_segD 2 12 _ _ (by rfl) (by rfl) ?_
  simp only [List.take_succ_cons, List.take_zero, List.drop_succ_cons, List.drop_zero, if_true, Nat.zero_add, Nat.reduceAdd]
  repeat (go_big_quiet_step (fail))
  refine wpQuiet_nil ?_
  refine wpC_nil ?_
  clear hf1 hf2 hX1 HF H0 H2
  go_wp2_with fail
  go_ret
  exact ⟨by simp, _, HG.out.1, HG.out.2, HE.out.1, ((belowN HB1.out 1).mono hB).trans HE.out.2⟩
end Go.Proofs.YtfbhddllimfdlaaDoor

/- The law's asked: a search, a look. -/
namespace Go.Proofs.YtfbhddllimfdlaaDoor
set_option linter.unusedVariables false
set_option linter.unusedSimpArgs false
open Go.RowKit
set_option maxHeartbeats 3200000 in
set_option maxRecDepth 100000 in
theorem asked_find {w : World} {B p r : Nat} {L : List ByteArray} (hp : PairP w B p r L) (hB : B ≤ w.heap.size) (hl : Laid w) (a d : Int) (t : ByteArray) (ha : -9223372036854775808 ≤ a ∧ a ≤ 9223372036854775807) (hdd : -9223372036854775808 ≤ d ∧ d ≤ 9223372036854775807) :
    Calls Tryd.prog 14 #[.pointer (some ⟨p, 0, none⟩), .pointer (some ⟨r, 0, none⟩), .agg #[.int .u8 4, .int .i64 a, .int .i64 d, .string t]] w fun e w' => AskedP w B p r L e w' := by
  have HPr := Lib.hid hp
  obtain ⟨F, G, hP, hR, hd, bF, bG⟩ := hp
  have ok := hP.ok
  obtain ⟨w1, hw1⟩ : ∃ w1, w1 = w.alloc (.cells #[.int .u8 4, .int .i64 a, .int .i64 d, .string t] 23) := ⟨_, rfl⟩
  have hb1 : Below w.heap.size w w1 := by rw [hw1]; exact (Below.refl _ _).alloc (Nat.le_refl _) _
  have hh1 : w1.heap[w.heap.size]? = some (.cells #[.int .u8 4, .int .i64 a, .int .i64 d, .string t] 23 (0, 0)) := by rw [hw1]; exact heap_new _ _
  have x0 := cell_in hh1 (i := 0) rfl
  have x1 := cell_in hh1 (i := 1) rfl
  have x2 := cell_in hh1 (i := 2) rfl
  have x3 := cell_in hh1 (i := 3) rfl
  have hbl := heap_lt hh1
  obtain ⟨X1, f, hX1, hf, hF⟩ := classOf (fun y => y.cell? ⟨w.heap.size, 1, none⟩ = some (.int .i64 a) ∧ y.cell? ⟨w.heap.size, 2, none⟩ = some (.int .i64 d) ∧ y.cell? ⟨w.heap.size, 3, none⟩ = some (.string t)) ⟨x1, x2, x3⟩
  have hf1 := fun x => (hf x).1
  have hf2 := fun x => (hf x).2.1
  have hf3 := fun x => (hf x).2.2
  have HF := Lib.hid (fun w' (h : Below w1.heap.size w1 w') => hF w' ⟨(h.cell (p := ⟨w.heap.size, 1, none⟩) hbl).trans x1, (h.cell (p := ⟨w.heap.size, 2, none⟩) hbl).trans x2, (h.cell (p := ⟨w.heap.size, 3, none⟩) hbl).trans x3⟩)
  have hb2 : Below w.heap.size w (w1.drewN 1) := belowN hb1 1
  have B1 := Lib.hid (belowN (Below.refl w1.heap.size w1) 1)
  have H0 := Lib.hid (HF.out (w1.drewN 1) B1.out)
  have HP1 := Lib.hid (packFind (hP.below hb2) (hl.below hb2) t a d ha hdd)
  have HR1 := Lib.hid (fun w' (hb : Below w.heap.size w w') => refpFind (hR.below hb) ok.many t a d ha hdd)
  have HW := Lib.hid hw1
  have HB1 := Lib.hid hb1
  have HOk := Lib.hid ok
  obtain ⟨R, hRv⟩ : ∃ R, findP L t a d = R := ⟨_, rfl⟩
  rw [hRv] at HP1 HR1
  have hRR : (R == R) = true := beq_self_eq_true _
  clear hP hR hd bF bG ok hw1 hb1 hh1 x1 x2 x3 hF hf hb2 hl hRv
  go_enter Tryd.func14, Tryd.ntmps14
  go_upto_region 1 with (fail)
  rw [← HW.out]
  go_wp2_with fail
  refine wp_region_text ⟨[7, 15], [16, 17], 15⟩ (fun w' => ∃ y : X1, w' = f y) (by kernel_rfl) (by kernel_rfl) H0.out ?_
  refine wpC_seg false (H0.out) 7 0 _ _ (by rfl) (by rfl) ?_
  simp only [List.take_succ_cons, List.take_zero, List.drop_succ_cons, List.drop_zero, Bool.false_eq_true, if_false, Nat.zero_add, Nat.reduceAdd]
  repeat (go_big_quiet_step (fail))
  refine wpQuiet_nil ?_
  refine wpC_loud (by rfl) (by rfl) fun K hK => ?_
  go_wp2_with fail
  refine HP1.out.mono ?_
  rintro e w2 ⟨rfl, q2⟩
  have B2 := Lib.hid (B1.out.trans (q2.mono B1.out.size))
  have H2 := Lib.hid (HF.out w2 B2.out)
  have HR2 := Lib.hid (HR1.out w2 (HB1.out.trans (B2.out.mono HB1.out.size)))
  refine hK _ _ (fun _ => H2.out) ?_
  clear hK q2
  refine wpC_seg false (H2.out) 7 8 _ _ (by rfl) (by rfl) ?_
  simp only [List.take_succ_cons, List.take_zero, List.drop_succ_cons, List.drop_zero, Bool.false_eq_true, if_false, Nat.zero_add, Nat.reduceAdd]
  repeat (go_big_quiet_step (fail))
  refine wpQuiet_nil ?_
  refine wpC_loud (by rfl) (by rfl) fun K hK => ?_
  go_wp2_with fail
  refine HR2.out.mono ?_
  rintro e w3 ⟨rfl, rfl⟩
  refine hK _ _ (fun h => absurd h (by decide)) ?_
  clear hK
  refine wpC_segD 2 16 _ _ (by rfl) (by rfl) ?_
  simp only [List.take_succ_cons, List.take_zero, List.drop_succ_cons, List.drop_zero, if_true, Nat.zero_add, Nat.reduceAdd]
  repeat (go_big_quiet_step (fail))
  refine wpQuiet_nil ?_
  refine wpC_nil ?_
  clear hf1 hf2 hf3 hX1 HF H0 H2
  go_wp2_with fail
  go_ret
  have hbw := HB1.out.trans (B2.out.mono HB1.out.size)
  exact ⟨by simp, L, HOk.out, by omega, HPr.out.below hbw, hbw.mono hB⟩
end Go.Proofs.YtfbhddllimfdlaaDoor

/- The law's asked: a look at a place. -/
namespace Go.Proofs.YtfbhddllimfdlaaDoor
set_option linter.unusedVariables false
set_option linter.unusedSimpArgs false
open Go.RowKit
set_option maxHeartbeats 3200000 in
set_option maxRecDepth 100000 in
theorem asked_get {w : World} {B p r : Nat} {L : List ByteArray} (hp : PairP w B p r L) (hB : B ≤ w.heap.size) (hl : Laid w) (kd a d : Int) (t : ByteArray) (ha : -9223372036854775808 ≤ a ∧ a ≤ 9223372036854775807)
    (e1 : (kd == 1) = false) (e2 : (kd == 2) = false) (e3 : (kd == 3) = false) (e4 : (kd == 4) = false) :
    Calls Tryd.prog 14 #[.pointer (some ⟨p, 0, none⟩), .pointer (some ⟨r, 0, none⟩), .agg #[.int .u8 kd, .int .i64 a, .int .i64 d, .string t]] w fun e w' => AskedP w B p r L e w' := by
  have HPr := Lib.hid hp
  obtain ⟨F, G, hP, hR, hd, bF, bG⟩ := hp
  have ok := hP.ok
  obtain ⟨w1, hw1⟩ : ∃ w1, w1 = w.alloc (.cells #[.int .u8 kd, .int .i64 a, .int .i64 d, .string t] 23) := ⟨_, rfl⟩
  have hb1 : Below w.heap.size w w1 := by rw [hw1]; exact (Below.refl _ _).alloc (Nat.le_refl _) _
  have hh1 : w1.heap[w.heap.size]? = some (.cells #[.int .u8 kd, .int .i64 a, .int .i64 d, .string t] 23 (0, 0)) := by rw [hw1]; exact heap_new _ _
  have x0 := cell_in hh1 (i := 0) rfl
  have x1 := cell_in hh1 (i := 1) rfl
  have hbl := heap_lt hh1
  have HP1 := Lib.hid (packGet (hP.below hb1) (hl.below hb1) a ha)
  have HR1 := Lib.hid (fun w' (hb : Below w.heap.size w w') => refpGet (hR.below hb) a ha ok.many)
  have HW := Lib.hid hw1
  have HB1 := Lib.hid hb1
  have HOk := Lib.hid ok
  obtain ⟨x, b, hgv⟩ : ∃ (x : ByteArray) (b : Bool), getV L a = .tuple #[.string x, .bool b] := ⟨_, _, rfl⟩
  rw [hgv] at HP1 HR1
  have hxx : (x.toList == x.toList) = true := beq_self_eq_true _
  have hbb : (b == b) = true := beq_self_eq_true _
  clear hP hR hd bF bG ok hw1 hb1 hh1 hl hgv
  go_enter Tryd.func14, Tryd.ntmps14
  go_upto_region 1 with (fail)
  rw [← HW.out]
  go_wp2_with fail
  refine HP1.out.mono ?_
  rintro e w2 ⟨rfl, q2⟩
  have y1 := (q2.cell (p := ⟨w.heap.size, 1, none⟩) hbl).trans x1
  have hbw : Below w.heap.size w w2 := HB1.out.trans (q2.mono HB1.out.size)
  have HBw := Lib.hid hbw
  have HR2 := Lib.hid (HR1.out w2 hbw)
  clear q2 hbw x0 x1
  go_wp2_with fail
  refine HR2.out.mono ?_
  rintro e w3 ⟨rfl, rfl⟩
  go_wp2_with fail
  go_ret
  exact ⟨by first | rfl | simp, L, HOk.out, by omega, HPr.out.below HBw.out, HBw.out.mono hB⟩
end Go.Proofs.YtfbhddllimfdlaaDoor

/- The law's asked, of any kind. -/
namespace Go.Proofs.YtfbhddllimfdlaaDoor
set_option linter.unusedVariables false
set_option linter.unusedSimpArgs false
open Go.RowKit
theorem asked_any {w : World} {B p r : Nat} {L : List ByteArray} (hp : PairP w B p r L) (hB : B ≤ w.heap.size) (hl : Laid w) (kd a d : Int) (t : ByteArray) (ha : -9223372036854775808 ≤ a ∧ a ≤ 9223372036854775807) (hd : -9223372036854775808 ≤ d ∧ d ≤ 9223372036854775807) (ht : t.size ≤ 1048576) :
    Calls Tryd.prog 14 #[.pointer (some ⟨p, 0, none⟩), .pointer (some ⟨r, 0, none⟩), .agg #[.int .u8 kd, .int .i64 a, .int .i64 d, .string t]] w fun e w' => AskedP w B p r L e w' := by
  by_cases h1 : kd = 1
  · subst h1; exact asked_ins hp hB hl a d t ha ht
  · by_cases h2 : kd = 2
    · subst h2; exact asked_set hp hB hl a d t ha ht
    · by_cases h3 : kd = 3
      · subst h3; exact asked_del hp hB hl a d t ha hd
      · by_cases h4 : kd = 4
        · subst h4; exact asked_find hp hB hl a d t ha hd
        · exact asked_get hp hB hl kd a d t ha (beq_eq_false_iff_ne.2 h1) (beq_eq_false_iff_ne.2 h2) (beq_eq_false_iff_ne.2 h3) (beq_eq_false_iff_ne.2 h4)
end Go.Proofs.YtfbhddllimfdlaaDoor

/- The law PackParses: the walk. -/
namespace Go.Proofs.YtfbhddllimfdlaaDoor
set_option linter.unusedVariables false
set_option linter.unusedSimpArgs false
open Go.RowKit
set_option maxHeartbeats 3200000 in
set_option maxRecDepth 100000 in
theorem packParses_all {w : World} (hl : Laid w) (s : ByteArray) (kd a d : Int) (t : ByteArray) (hs : s.size ≤ 1048576) (ha : -9223372036854775808 ≤ a ∧ a ≤ 9223372036854775807) (hd : -9223372036854775808 ≤ d ∧ d ≤ 9223372036854775807) (ht : t.size ≤ 1048576) :
    Calls Tryd.prog 3 #[.string s, .agg #[.int .u8 kd, .int .i64 a, .int .i64 d, .string t]] w fun e w' => e = .returned (.bool true) ∧ Below w.heap.size w w' := by
  obtain ⟨w1, hw1⟩ : ∃ w1, w1 = w.alloc (.cells #[.int .u8 kd, .int .i64 a, .int .i64 d, .string t] 23) := ⟨_, rfl⟩
  have hb1 : Below w.heap.size w w1 := by rw [hw1]; exact (Below.refl _ _).alloc (Nat.le_refl _) _
  have hh1 : w1.heap[w.heap.size]? = some (.cells #[.int .u8 kd, .int .i64 a, .int .i64 d, .string t] 23 (0, 0)) := by rw [hw1]; exact heap_new _ _
  have x3 := cell_in hh1 (i := 3) rfl
  obtain ⟨w2, hw2⟩ : ∃ w2, w2 = w1.alloc (.cells #[.int .i64 s.size, .int .i64 t.size] 3) := ⟨_, rfl⟩
  have hb2 : Below w.heap.size w w2 := by rw [hw2]; exact hb1.alloc hb1.size _
  have hh2 : w2.heap[w1.heap.size]? = some (.cells #[.int .i64 s.size, .int .i64 t.size] 3 (0, 0)) := by rw [hw2]; exact heap_new _ _
  have hh12 : w2.heap[w.heap.size]? = some (.cells #[.int .u8 kd, .int .i64 a, .int .i64 d, .string t] 23 (0, 0)) := by rw [hw2]; exact heap_old hh1 _
  have hbe := beyond_any w2 (some ⟨w1.heap.size, 0, none⟩) 2 2 [s.size, t.size] rfl (argRow_of (Nat.le_refl _) fun i hi => by
    rw [Addr.add_lit]
    refine cell_in hh2 ?_
    rcases i with _ | _ | i
    · rfl
    · rfl
    · omega) (fun x hx => by
      rcases List.mem_cons.1 hx with rfl | hx
      · omega
      · rw [List.mem_singleton.1 hx]; omega) (by omega)
  rw [show [s.size, t.size].sum = s.size + t.size by simp] at hbe
  have HBe := Lib.hid hbe
  have HW1 := Lib.hid hw1
  have HW2 := Lib.hid hw2
  have HB2 := Lib.hid hb2
  have HH := Lib.hid hh12
  have HLd := Lib.hid (fun w' (hb : Below w.heap.size w w') => hl.below hb)
  have hbl := heap_lt hh12
  clear hw1 hw2 hb1 hb2 hh1 hh2 hh12 hbe hl
  by_cases hbig : 1048576 < s.size + t.size
  · rw [decide_eq_true hbig] at HBe
    go_enter Tryd.func3, Tryd.ntmps3
    go_upto_region 1 with (fail)
    rw [← HW1.out]
    go_wp2_with fail
    rw [← HW2.out]
    refine HBe.out.mono ?_
    rintro e w' ⟨rfl, rfl⟩
    go_wp2_with fail
    go_ret
    exact ⟨rfl, HB2.out⟩
  · rw [decide_eq_false hbig] at HBe
    by_cases hg : ∃ L, OKL L ∧ s = strOf (packL L)
    · obtain ⟨L, ok, he⟩ := hg
      have hsz : sizeP L = s.size := by rw [he, strOf_size, packL_length]
      have HP := Lib.hid (parse_pack (HLd.out _ HB2.out) L ok s he)
      have HR := Lib.hid (fun w' => refpParse s hs w')
      have HE := Lib.hid (And.intro ok (And.intro he (show sizeP L ≤ 1048576 by omega)))
      clear ok he hsz
      go_enter Tryd.func3, Tryd.ntmps3
      go_upto_region 1 with (fail)
      rw [← HW1.out]
      go_wp2_with fail
      rw [← HW2.out]
      refine HBe.out.mono ?_
      rintro e w' ⟨rfl, rfl⟩
      go_wp2_with fail
      refine HP.out.mono ?_
      rintro e w3 ⟨⟨p, F, rfl, hP, bF⟩, b3⟩
      have B3 := Lib.hid (HB2.out.trans (b3.mono HB2.out.size))
      have X3 := Lib.hid ((b3.block _ hbl).trans HH.out)
      have HP3 := Lib.hid (And.intro hP bF)
      clear b3 hP bF
      go_wp2_with fail
      refine (HR.out _).mono ?_
      rintro e w4 ⟨⟨r, L2, G, rfl, ok2, e2, hR, bG⟩ | ⟨_, hno⟩, b4⟩
      · have hLL : L2 = L := pack_inj (fun x hx => by have := ok2.each x hx; omega) (fun x hx => by have := HE.out.1.each x hx; omega) (by have := ok2.many; omega) (by have := HE.out.1.many; omega) (strOf_inj (e2.symm.trans HE.out.2.1))
        subst hLL
        have B4 := Lib.hid (B3.out.trans (b4.mono B3.out.size))
        have X4 := (b4.block _ (heap_lt X3.out)).trans X3.out
        have hs23 := HB2.out.size
        have hp4 : PairP w4 w.heap.size p r L2 := ⟨F, G, HP3.out.1.below b4, hR, fun k h1 h2 => by have := HP3.out.1.lt h1; have := bG k h2; omega, fun k h1 => by have := HP3.out.2 k h1; omega, fun k h1 => by have := bG k h1; have := B3.out.size; omega⟩
        have HL1 := Lib.hid (looks_any (HP3.out.1.below b4) hR (HLd.out _ B4.out) HE.out.1.each (by have := HE.out.2.2; omega) HE.out.1.many)
        have HP4 := Lib.hid hp4
        have HX4 := Lib.hid X4
        clear b4 hR bG hp4 X4
        go_wp2_with fail
        refine HL1.out.mono ?_
        rintro e w5 ⟨rfl, b5⟩
        have B5 := Lib.hid (B4.out.trans (b5.mono B4.out.size))
        have hx5 := (b5.block _ (heap_lt HX4.out)).trans HX4.out
        have y0 := cell_in hx5 (i := 0) rfl
        have y1 := cell_in hx5 (i := 1) rfl
        have y2 := cell_in hx5 (i := 2) rfl
        have y3 := cell_in hx5 (i := 3) rfl
        have HA := Lib.hid (asked_any (HP4.out.below b5) B5.out.size (HLd.out _ B5.out) kd a d t ha hd ht)
        clear b5
        go_wp2_with fail
        refine HA.out.mono ?_
        rintro e w6 ⟨rfl, L3, ok3, hz3, ⟨F3, G3, p3, r3, _⟩, b6⟩
        have B6 := Lib.hid (B5.out.trans b6)
        have HL3 := Lib.hid (looks_any p3 r3 (HLd.out _ B6.out) ok3.each (by have := HE.out.2.2; omega) ok3.many)
        clear p3 r3 b6
        go_wp2_with fail
        refine HL3.out.mono ?_
        rintro e w7 ⟨rfl, b7⟩
        have B7 := Lib.hid (B6.out.trans (b7.mono B6.out.size))
        clear b7
        go_wp2_with fail
        go_ret
        exact ⟨rfl, B7.out⟩
      · exact absurd HE.out.2.1 (hno L HE.out.1)
    · have hno : ∀ L, OKL L → s ≠ strOf (packL L) := fun L ok e => hg ⟨L, ok, e⟩
      have HP := Lib.hid (parse_neg (HLd.out _ HB2.out) s hs hno)
      have HR := Lib.hid (fun w' => refpParse s hs w')
      have HNo := Lib.hid hno
      clear hg hno
      go_enter Tryd.func3, Tryd.ntmps3
      go_upto_region 1 with (fail)
      rw [← HW1.out]
      go_wp2_with fail
      rw [← HW2.out]
      refine HBe.out.mono ?_
      rintro e w' ⟨rfl, rfl⟩
      go_wp2_with fail
      refine HP.out.mono ?_
      rintro e w3 ⟨rfl, b3⟩
      have B3 := Lib.hid (HB2.out.trans (b3.mono HB2.out.size))
      clear b3
      unfold nilE
      go_wp2_with fail
      refine (HR.out _).mono ?_
      rintro e w4 ⟨⟨r, L, G, rfl, ok, e2, _⟩ | ⟨rfl, _⟩, b4⟩
      · exact absurd e2 (HNo.out L ok)
      · have B4 := Lib.hid (B3.out.trans (b4.mono B3.out.size))
        clear b4
        go_wp2_with fail
        go_ret
        exact ⟨rfl, B4.out⟩
end Go.Proofs.YtfbhddllimfdlaaDoor

/- PackParses: the walk in its row's form. -/
namespace Go.Proofs.YtfbhddllimfdlaaDoor
set_option linter.unusedVariables false
open Go.RowKit
theorem packParses_walk {w : World} (hl : Laid w) (s : ByteArray) (kd a d : Int) (t : ByteArray) (hs : s.size ≤ 1048576) (hk : (Lit.int .u8 kd).wf = true) (ha : (Lit.int .i64 a).wf = true) (hd : (Lit.int .i64 d).wf = true) (ht : t.size ≤ 1048576) :
    Calls Tryd.prog 3 #[.string s, .agg #[.int .u8 kd, .int .i64 a, .int .i64 d, .string t]] w fun e w' => e = .returned (.bool true) ∧ Below w.heap.size w w' := by
  have r : ∀ {x : Int}, (Lit.int .i64 x).wf = true → -9223372036854775808 ≤ x ∧ x ≤ 9223372036854775807 := fun {x} h => by
    simpa [Lit.wf, IntKind.min, IntKind.max, IntKind.signed, IntKind.bits] using h
  exact packParses_all hl s kd a d t hs (r ha) (r hd) ht
end Go.Proofs.YtfbhddllimfdlaaDoor

/- what a row's list of variables gives (door seats): Laid; and a world that meets it. -/
namespace Go.Proofs.YtfbhddllimfdlaaDoor
set_option linter.unusedVariables false
set_option linter.unusedSimpArgs false
open Go.RowKit
namespace Lay
theorem star : "*" ++ "errors.errorString" = "*errors.errorString" := by decide
theorem rowErr (u : TypeId) (h : Tryd.prog.typeName? 3 u = some "*errors.errorString") : u = 171 :=
  typeName_ptr_named (nm := "errors.errorString") (by rw [star]; kernel_rfl) (by kernel_rfl) (by decide) u (by rw [star]; exact h)
theorem laid_of {W : World} (h : laidMetH Tryd.prog Rows.packParsesRow.laid W) (hs : W.ShapedOpen Tryd.prog) : Laid W := by
  have h0 : laidMet Tryd.prog Rows.packParsesRow.laid W := h
  have h3 : laidMet Tryd.prog [("internal/strconv.uint64pow10", Rows.laid_internal_strconv_uint64pow10), ("strconv.ErrRange", Rows.laid_strconv_ErrRange), ("strconv.ErrSyntax", Rows.laid_strconv_ErrSyntax)] W := h0.tail.tail
  refine { tab := Lib.tabIs_of_head (n := 20) (g := 0) (by kernel_rfl) (by kernel_rfl) Tryd.underlying159 Tryd.underlying71 (by kernel_rfl) (by kernel_rfl) h3, syn := ?_, rng := ?_
         }
  · obtain ⟨a, _, hv, _⟩ := laid_sentinel (g := 1) h3.tail.tail (by kernel_rfl) (by kernel_rfl) Tryd.underlying132 rowErr Tryd.underlying171 Tryd.underlying173 rfl rfl Tryd.underlying9 (by kernel_rfl) (by kernel_rfl)
    exact ⟨_, _, hv⟩
  · obtain ⟨a, _, hv, _⟩ := laid_sentinel (g := 2) h3.tail (by kernel_rfl) (by kernel_rfl) Tryd.underlying132 rowErr Tryd.underlying171 Tryd.underlying173 rfl rfl Tryd.underlying9 (by kernel_rfl) (by kernel_rfl)
    exact ⟨_, _, hv⟩
/-- So many blocks has the settled world. -/
noncomputable def low : Nat := (World.holding Tryd.prog default ⟨#[], #[], []⟩).heap.size
abbrev synS : ByteArray := { data := #[105, 110, 118, 97, 108, 105, 100, 32, 115, 121, 110, 116, 97, 120] }
abbrev rngS : ByteArray := { data := #[118, 97, 108, 117, 101, 32, 111, 117, 116, 32, 111, 102, 32, 114, 97, 110, 103, 101] }
def lits : List (DataW Unit) → Array Value
  | [] => #[]
  | .lit (.int k n) :: l => #[.int k n] ++ lits l
  | _ :: l => lits l
def table : DataW Unit → Array Value
  | .agg l => lits l
  | _ => #[]
def into (cs : Array Value) : Obj → Obj
  | .cells _ t frozen => .cells cs t frozen
  | o => o
noncomputable def laidWorld (os : Os) : World :=
  let w0 := World.holding Tryd.prog os ⟨#[.cells #[.string synS] 173, .cells #[.string rngS] 173], #[], []⟩
  { w0 with heap := ((((w0.heap.modify 0 (into (table Rows.laid_internal_strconv_uint64pow10))).modify 3 (into (table Rows.laid_math_bits_deBruijn32tab))).modify 4 (into (table Rows.laid_math_bits_deBruijn64tab))).modify 1 (into #[.iface 171 (.pointer (some ⟨low, 0, none⟩))])).modify 2 (into #[.iface 171 (.pointer (some ⟨low + 1, 0, none⟩))]) }
theorem laid_met (os : Os) (args : Array Value) : laidMet Tryd.prog Rows.packParsesRow.laid ((laidWorld os).forCall (fun _ _ => 0) ⟨#[], args, []⟩).memory :=
  laidMet_of_run' 8 (by kernel_rfl) (by kernel_rfl)
end Lay
end Go.Proofs.YtfbhddllimfdlaaDoor

/- The row of the law PackParses, and its card: for every input of at most 1048576 values and letters the Go function returns true and its arguments read as before, out of the walk packParses_walk. The library's variables that the row lists hold what the program's text lays (the card's tie, given). -/
namespace Go.Proofs.YtfbhddllimfdlaaDoor.packParsesRow
open Go.ChangeShapes Go.WideShapes Go.ChangeAt Go.RowKit
open Go.ChangeMaps (open_string shut_string)
set_option linter.unusedVariables false
set_option linter.unusedSimpArgs false
theorem own : ownKnob Tryd.prog.godebug = none := by kernel_rfl
theorem laidOut : laidOutB Tryd.prog = true := by kernel_rfl
theorem bulk {H : Type} {l : List (DataW H)} (hk : Rows.uptoSmall H l = true) : Rows.uptoBulkAll l ≤ 1048576 := of_decide_eq_true hk
theorem reads (os : Os) {H : Type} (enc : TypeId × Value → H) : ∃ places, DataW.whole enc Tryd.prog ((Lay.laidWorld os).forCall (fun _ _ => 0) ⟨#[], #[.string ByteArray.empty, .agg #[.int .u8 0, .int .i64 0, .int .i64 0, .string ByteArray.empty]], []⟩).memory Tryd.f3.params.toList Rows.packParsesSpec.vars false (#[.string ByteArray.empty, .agg #[.int .u8 0, .int .i64 0, .int .i64 0, .string ByteArray.empty]] : Array Value).toList 8 = some ([.lit (.string []), .agg [.lit (.int .u8 0), .lit (.int .i64 0), .lit (.int .i64 0), .lit (.string [])]], [], places) :=
  ⟨[], by kernel_rfl⟩
set_option maxRecDepth 100000 in
theorem contract (H : Type) (enc : TypeId × Value → H) (W : World) (base : Nat) (args : Array Value) (ds gs : List (DataW H)) (before : List MemPlace)
    (hval0 : ∀ (j : Nat) t v, Tryd.f3.params[j]? = some t → args[j]? = some v → Value.okWide Tryd.prog W .any base t v)
    (hW : DataW.Whole enc Tryd.prog Tryd.f3.params.toList Rows.packParsesSpec.vars false W args.toList ds gs before) (hk0 : Rows.uptoSmall H (ds ++ gs) = true)
    (hsz0 : (DataW.weightsEach Tryd.prog (Tryd.f3.params.toList ++ Rows.packParsesSpec.plain.varTypes Tryd.prog) (ds ++ gs)).all (· ≤ reachBytes) = true) (hL : Laid W) :
    Calls Tryd.prog 3 args W fun e W' => ∃ v, e = .returned v ∧ Rows.packParsesSpec.post enc Tryd.prog Tryd.f3 false true false false W args v W' := by
  have hsz := hsz0
  have hk := bulk hk0
  have hval : ∀ (j : Nat) t v, Tryd.f3.params[j]? = some t → args[j]? = some v → Value.okWide Tryd.prog W .any base t v := hval0
  have hW' := hW
  obtain ⟨p, q, hA0, hV, rfl, hfz, hnd⟩ := hW
  have hA : DataW.TrodAll enc Tryd.prog W 0 (fun _ => true) true Tryd.f3.params.toList args.toList ds p := hA0
  rw [Tryd.params3] at hA hval hsz
  obtain ⟨v0, vs0, d0, ds0, p0, q0, hargs, rfl, rfl, h0, r0⟩ := trodAll_cons hA
  obtain ⟨v1, vs1, d1, ds1, p1, q1, rfl, rfl, rfl, h1, r1⟩ := trodAll_cons r0
  obtain ⟨rfl, rfl, rfl⟩ := trodAll_nil r1
  obtain rfl : args = #[v0, v1] := by cases args; simp_all
  obtain ⟨rfl, rfl⟩ := trodVars_none hV
  have k0 := h0
  have lt0 : ∀ x ∈ p0, x.block < W.heap.size := by obtain ⟨m, hm⟩ := k0; exact DataW.trod_lt m _ _ _ hm
  obtain ⟨a0, rfl, rfl, rfl, y0⟩ := open_string Tryd.underlying9 (hval 0 9 v0 rfl rfl) h0
  have w0 : a0.size ≤ 140737488351232 := by
    have z := sized_string hsz (j := 0) (t := 9) rfl rfl
    rw [Array.length_toList] at z
    exact z
  have k1 := h1
  have lt1 : ∀ x ∈ p1, x.block < W.heap.size := by obtain ⟨m, hm⟩ := k1; exact DataW.trod_lt m _ _ _ hm
  obtain ⟨v1_0, v1_1, v1_2, v1_3, y1_0, y1_1, y1_2, y1_3, n1, rfl, rfl, rfl, g1_0, g1_1, g1_2, g1_3⟩ := Joins.open_agg4 Tryd.underlying23 (by kernel_rfl) (by kernel_rfl) (hval 1 23 v1 rfl rfl) h1
  obtain ⟨a1_0, rfl, u1_0, w1_0⟩ := int_cell Tryd.underlying5 g1_0
  obtain ⟨a1_1, rfl, u1_1, w1_1⟩ := int_cell Tryd.underlying3 g1_1
  obtain ⟨a1_2, rfl, u1_2, w1_2⟩ := int_cell Tryd.underlying3 g1_2
  obtain ⟨a1_3, e1_3, u1_3, _⟩ := DataW.trod_string Tryd.underlying9 g1_3
  obtain rfl := (List.cons.inj e1_3).1
  have o1_3 := congrArg (fun z => Rows.uptoBulk z.1) u1_3
  simp only [Rows.uptoBulk] at o1_3
  have l1_3 : a1_3.data.toList.length = a1_3.size := by rw [Array.length_toList]; rfl
  have e0 : a0.data.toList.length = a0.size := by rw [Array.length_toList]; rfl
  simp only [List.cons_append, List.nil_append, List.append_nil, Rows.uptoBulkAll, Rows.uptoBulk] at hk
  clear hA0 hval0 hsz0 hsz
  refine (packParses_walk hL a0 a1_0 a1_1 a1_2 a1_3 (by omega) w1_0 w1_1 w1_2 (by omega)).mono fun e W' ⟨he, bel⟩ => ?_
  subst he
  exact ⟨_, rfl, _, _, _, [], _, [], hW', trodAll_mk1 (shut_bool Tryd.underlying4 _), (trodAll_cons_mk (Below.trod laidOut (by kernel_rfl) (of_decide_eq_true (by kernel_rfl)) k0 bel lt0) (trodAll_cons_mk (Below.trod laidOut (by kernel_rfl) (of_decide_eq_true (by kernel_rfl)) k1 bel lt1) trodAll_mk0)), rfl, bel.frame _, fun h => by cases h⟩
set_option maxRecDepth 100000 in
theorem liftedUpto (os : Os) (started : os.Started) (H : Type) (enc : TypeId × Value → H) (F : Stop.Interp) :
    ReturnsInHanded {} Tryd.checked os 3 .any ((Rows.OpenSpec.upto Rows.packParsesSpec).preRow enc Tryd.prog Tryd.f3 Rows.packParsesUptoRow.domain false Rows.packParsesUptoRow.laid) (((Rows.OpenSpec.upto Rows.packParsesSpec).at F).post enc Tryd.prog Tryd.f3 false true false false) := by
  obtain ⟨places, hx⟩ := reads os enc
  refine returnsInHanded_of_row (C := Tryd.checked) (s := (Rows.OpenSpec.upto Rows.packParsesSpec)) own started (by kernel_rfl) Tryd.func3
    (witness_row_at (enc := enc) (C := Tryd.checked) false (Lay.laidWorld os) #[.string ByteArray.empty, .agg #[.int .u8 0, .int .i64 0, .int .i64 0, .string ByteArray.empty]] rfl (by kernel_rfl) (by kernel_rfl) (by kernel_rfl)
      (OpenSpec.preRow_of_cond 8 hx (by kernel_rfl) (fun k hk => by cases hk; kernel_rfl) (by kernel_rfl) (Lay.laid_met os _))) ?_
  intro W base args ds gs before hval hW _ hcond hsz hL hS _
  exact contract H enc W base args ds gs before hval hW (hcond _ rfl) hsz (Lay.laid_of hL hS)
theorem saidUpto : Rows.PackParsesUptoSaid :=
  OpenClaim.holds_of_cond 3 Tryd.f3 rfl rfl rfl rfl rfl rfl rfl ⟨rfl, rfl, rfl, rfl, rfl⟩ rfl rfl rfl rfl rfl (by kernel_rfl) Tryd.func3 (by kernel_rfl)
    (of_decide_eq_true (by kernel_rfl)) (by unfold Func.isWrapper; first | (rw [if_pos (by decide +kernel)]; kernel_rfl) | (rw [if_neg (by decide +kernel)]; exact ⟨rfl, rfl⟩))
    (fun os started H enc _ F => by rw [OpenClaim.pre_eq_preRow]; exact liftedUpto os started H enc F)
theorem plain (f : FuncId) (fn : Func) (hf : Tryd.pinned.checked.prog.funcNamed "stillroom/stillroomlaw05.PackParses" = some f) (hfn : Tryd.pinned.checked.prog.funcs[f]? = some fn) :
    true = Tryd.pinned.checked.prog.looks [] ∧ ∀ (j : Nat) t, fn.params[j]? = some t → Tryd.pinned.checked.prog.wantsStandIn t = false := by
  obtain rfl : f = 3 := Option.some.inj ((show Tryd.prog.funcNamed "stillroom/stillroomlaw05.PackParses" = some 3 by kernel_rfl).symm.trans hf) |>.symm
  obtain rfl : fn = Tryd.f3 := (Option.some.inj (Tryd.func3.symm.trans hfn)).symm
  refine ⟨by kernel_rfl, fun j t ht => ?_⟩
  rw [Tryd.params3] at ht
  have ht := Array.mem_of_getElem? ht
  have all : ∀ t ∈ (#[9, 23] : Array TypeId), Tryd.prog.wantsStandIn t = false := by
    intro t ht
    simp only [List.mem_toArray, List.mem_cons, List.not_mem_nil, or_false] at ht
    rcases ht with rfl | rfl <;> kernel_rfl
  exact all t ht
end Go.Proofs.YtfbhddllimfdlaaDoor.packParsesRow
namespace Go.Proofs.YtfbhddllimfdlaaDoor
open Go.Proofs.YtfbhddllimfdlaaDoor.packParsesRow in
/-- The law's card. -/
theorem packParses_holds : Rows.PackParsesUptoCardSaid :=
  Claim7.holds_tied_plain_at .later [] _ _ _ _ saidUpto (fun _ h => by cases h) (by kernel_rfl) (fun _ h => by cases h) packParsesUpto_row_tie rfl ⟨rfl, rfl⟩ (by kernel_rfl) rfl plain (by kernel_rfl)
end Go.Proofs.YtfbhddllimfdlaaDoor
