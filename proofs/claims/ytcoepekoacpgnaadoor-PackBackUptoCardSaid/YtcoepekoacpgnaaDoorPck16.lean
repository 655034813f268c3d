/- pack.Find. -/
import Derived.Test.YtcoepekoacpgnaaDoorPck15
namespace Go.Proofs.YtcoepekoacpgnaaDoor
set_option linter.unusedVariables false
set_option linter.unusedSimpArgs false
open Go.RowKit Go.Shelf
attribute [local go_sem] Oper.semAt_some
theorem pre_ltP {α : Type} {pre l : List α} {x : α} (h : pre ++ [x] <+: l) : pre.length < l.length := by
  have := h.length_le
  simp at this
  omega
theorem prefix_lt {α : Type} {pre l : List α} {x : α} : pre.length < l.length → pre ++ [x] <+: l → True := fun _ _ => trivial
theorem packStops {w0 w : World} {N p bp g cap : Nat} {cur : Array Value} {L : List ByteArray} (hl : Laid w0) (hw0 : w0.heap.size = N) (hb0 : Below N w0 w) (hN : N ≤ w.heap.size) (hr : PackRow w p g cap cur L) (hbp : w.cell? ⟨bp, 0, none⟩ = some (.pointer (some ⟨p, 0, none⟩))) (m : Nat) :
    SeqStopsK Fence.wide m Tryd.prog 75 #[.pointer (some ⟨bp, 0, none⟩)] encP (KeepP N w.heap.size g) (fun xs => xs = toldP L) (fun pre => pre <+: toldP L) (toldP L).length w := by
  intro l J Jx W hW hJ _ hY h0
  refine callsIn_wide.2 (packIter1 hl hw0 (hb0.trans (hW.mono hN)) (hr.chg (Chg.of_below (fun _ => False) hW) id id) ((hW.cell (p := ⟨bp, 0, none⟩) (World.block_lt_of_cell? w _ hbp)).trans hbp) hW.size hN J Jx hJ (fun pre x W1 hj hp => hY pre x W1 hj (pre_ltP hp)) h0)
theorem grown_keepP {W W' : World} {row : Option Nat} (hg : W.grownBy W' row) (hr : ∀ r, row = some r → ∃ o : Obj, W.heap[r]? = some o ∧ o.isCells = false) {k : Nat} {cs : Array Value} {E : TypeId} {fz : Nat × Nat} (hk : W.heap[k]? = some (.cells cs E fz)) : W'.heap[k]? = some (.cells cs E fz) := by
  rw [hg.block k (heap_lt hk) (fun e => by
    obtain ⟨o, ho, hc⟩ := hr k e.symm
    rw [hk] at ho; cases ho; cases hc)]
  exact hk
theorem grown_belowP {W W' w : World} {row : Option Nat} {n₀ B : Nat} (hb : Below n₀ w W) (hg : W.grownBy W' row) (hr : ∀ r, row = some r → B ≤ r) (hn : n₀ ≤ B) (hs : n₀ ≤ W.heap.size) : Below n₀ w W' :=
  hb.trans ⟨hg.os, hg.tape, hg.output, hg.size, fun k hk => hg.block k (by omega) fun e => by have := hr k e.symm; omega⟩
theorem keepsFrom_ofP {W W' : World} {S : Nat → Prop} (B : Nat) (h : Chg S W W') (hs : ∀ k, S k → ∀ o, W.heap[k]? = some o → o.isCells = true) : KeepsFrom B W W' :=
  ⟨h.size, fun k o _ hk ho => h.keep hk fun hS => by rw [hs k hS o hk] at ho; cases ho⟩
/-- Is it the one that is sought? -/
def hitP (s : ByteArray) (a e : Int) (x : Nat × ByteArray) : Bool := decide (a ≤ (x.1 : Int)) && ((Int.tmod (wrap64 ((x.1 : Int) - a)) e == 0) && (x.2.toList == s.toList))
def findP (L : List ByteArray) (s : ByteArray) (a e : Int) : Int := if a < 0 ∨ e < 1 then -1 else match (toldP L).find? (hitP s a e) with
  | some x => x.1
  | none => -1
/-- Between two rounds. -/
structure FindI (w : World) (n0 bs : Nat) (s : ByteArray) (a e : Int) (pre : List (Nat × ByteArray)) (W : World) : Prop where
  below : Below n0 w W
  size : n0 ≤ W.heap.size
  b0 : W.heap[bs]? = some (.cells #[.string s] 9 (0, 0))
  b1 : W.heap[bs + 1]? = some (.cells #[.int .i64 a] 3 (0, 0))
  b2 : W.heap[bs + 1 + 1]? = some (.cells #[.int .i64 e] 3 (0, 0))
  b3 : W.heap[bs + 1 + 1 + 1]? = some (.cells #[.int .i64 0] 3 (0, 0))
  none : pre.find? (hitP s a e) = none
theorem FindI.own (w : World) (n0 bs : Nat) (s : ByteArray) (a e : Int) (B : Nat) (hB : n0 ≤ B) : OwnFrom B (FindI w n0 bs s a e) := by
  rintro pre W W' row h hg hr
  exact ⟨grown_belowP h.below hg (fun r e => (hr r e).1) hB h.size, Nat.le_trans h.size hg.size, grown_keepP hg (fun r e => (hr r e).2) h.b0, grown_keepP hg (fun r e => (hr r e).2) h.b1, grown_keepP hg (fun r e => (hr r e).2) h.b2, grown_keepP hg (fun r e => (hr r e).2) h.b3, h.none⟩
/-- Behind the hit. -/
def FindX (w : World) (n0 bs : Nat) (s : ByteArray) (a e : Int) (c : Code) (pre : List (Nat × ByteArray)) (W : World) : Prop :=
  c = .ret ∧ Below n0 w W ∧ n0 ≤ W.heap.size ∧ ∃ x, pre.find? (hitP s a e) = some x ∧ W.heap[bs + 1 + 1 + 1]? = some (.cells #[.int .i64 (x.1 : Nat)] 3 (0, 0))
theorem FindX.own (w : World) (n0 bs : Nat) (s : ByteArray) (a e : Int) (B : Nat) (hB : n0 ≤ B) (c : Code) : OwnFrom B (FindX w n0 bs s a e c) := by
  rintro pre W W' row ⟨h1, h2, h3, x, h4, h5⟩ hg hr
  exact ⟨h1, grown_belowP h2 hg (fun r e => (hr r e).1) hB h3, Nat.le_trans h3 hg.size, x, h4, grown_keepP hg (fun r e => (hr r e).2) h5⟩
set_option maxHeartbeats 3200000 in
set_option maxRecDepth 100000 in
theorem find_row {w : World} {p g cap : Nat} {cur : Array Value} {L : List ByteArray} (h : PackRow w p g cap cur L) (hl : Laid w) (s : ByteArray) (a e : Int) (ha : -9223372036854775808 ≤ a ∧ a ≤ 9223372036854775807) (he : -9223372036854775808 ≤ e ∧ e ≤ 9223372036854775807) :
    Calls Tryd.prog 17 #[.pointer (some ⟨p, 0, none⟩), .string s, .int .i64 a, .int .i64 e] w fun en w' => en = .returned (.int .i64 (findP L s a e)) ∧ Below w.heap.size w w' := by
  have HA := Lib.hid (fun w => packAll w p)
  by_cases h1 : a < 0 ∨ e < 1
  · have hv : findP L s a e = -1 := by unfold findP; rw [if_pos h1]
    rw [hv]
    have hb : Below w.heap.size w ((((w.alloc (Obj.cells #[Value.string s] 9)).alloc (Obj.cells #[Value.int IntKind.i64 a] 3)).alloc (Obj.cells #[Value.int IntKind.i64 e] 3)).alloc (Obj.cells #[Value.int IntKind.i64 (-1)] 3)) :=
      ((((Below.refl w.heap.size w).alloc (Nat.le_refl _) _).alloc (by simp) _).alloc (by simp; omega) _).alloc (by simp; omega) _
    have hc := heap_new (((w.alloc (Obj.cells #[Value.string s] 9)).alloc (Obj.cells #[Value.int IntKind.i64 a] 3)).alloc (Obj.cells #[Value.int IntKind.i64 e] 3)) (Obj.cells #[Value.int IntKind.i64 (-1)] 3)
    simp only [World.size_alloc] at hc
    have HB := Lib.hid (And.intro hb (cell_in hc (i := 0) (v := .int .i64 (-1)) rfl))
    clear hb hc hv h hl HA
    by_cases h0 : a < 0
    · have hd : decide (a < 0) = true := by simp; omega
      clear h1
      go_enter Tryd.func17, Tryd.ntmps17
      go_wp2_with fail
      exact bodyPost_ret (v := .int .i64 (-1)) (by have h := HB.out.2; simp [results, Tryd.results17, go_sem, h]) rfl ⟨rfl, HB.out.1⟩
    · have hd : decide (a < 0) = false := by simp; omega
      have hd2 : decide (e < 1) = true := by simp; omega
      clear h1
      go_enter Tryd.func17, Tryd.ntmps17
      go_wp2_with fail
      exact bodyPost_ret (v := .int .i64 (-1)) (by have h := HB.out.2; simp [results, Tryd.results17, go_sem, h]) rfl ⟨rfl, HB.out.1⟩
  · have hd1 : decide (a < 0) = false := by simp; omega
    have hd2 : decide (e < 1) = false := by simp; omega
    obtain ⟨w4, hw4⟩ : ∃ w4, w4 = (((w.alloc (Obj.cells #[Value.string s] 9)).alloc (Obj.cells #[Value.int IntKind.i64 a] 3)).alloc (Obj.cells #[Value.int IntKind.i64 e] 3)).alloc (Obj.cells #[Value.int IntKind.i64 0] 3) := ⟨_, rfl⟩
    have hs4 : w4.heap.size = w.heap.size + 4 := by rw [hw4]; simp
    have hb4 : Below w.heap.size w w4 := by rw [hw4]; exact ((((Below.refl w.heap.size w).alloc (Nat.le_refl _) _).alloc (by simp) _).alloc (by simp; omega) _).alloc (by simp; omega) _
    obtain ⟨w5, hw5⟩ : ∃ w5, w5 = w4.alloc (.cells #[.pointer (some ⟨p, 0, none⟩)] 25) := ⟨_, rfl⟩
    have hs5 : w5.heap.size = w.heap.size + 5 := by rw [hw5]; simp [hs4]
    have hb5 : Below w.heap.size w w5 := by rw [hw5]; exact hb4.alloc (by omega) _
    have hbp : w5.cell? ⟨w4.heap.size, 0, none⟩ = some (.pointer (some ⟨p, 0, none⟩)) := by rw [hw5]; exact cell_in (heap_new _ _) rfl
    have hI0 : FindI w w.heap.size w.heap.size s a e [] w5 := by
      have e1 := heap_new w (Obj.cells #[Value.string s] 9)
      have e2 := heap_new (w.alloc (Obj.cells #[Value.string s] 9)) (Obj.cells #[Value.int IntKind.i64 a] 3)
      have e3 := heap_new ((w.alloc (Obj.cells #[Value.string s] 9)).alloc (Obj.cells #[Value.int IntKind.i64 a] 3)) (Obj.cells #[Value.int IntKind.i64 e] 3)
      have e4 := heap_new (((w.alloc (Obj.cells #[Value.string s] 9)).alloc (Obj.cells #[Value.int IntKind.i64 a] 3)).alloc (Obj.cells #[Value.int IntKind.i64 e] 3)) (Obj.cells #[Value.int IntKind.i64 0] 3)
      simp only [World.size_alloc] at e2 e3 e4
      refine ⟨hb5, by omega, ?_, ?_, ?_, ?_, rfl⟩ <;> rw [hw5, hw4]
      · exact heap_old (heap_old (heap_old (heap_old e1 _) _) _) _
      · exact heap_old (heap_old (heap_old e2 _) _) _
      · exact heap_old (heap_old e3 _) _
      · exact heap_old e4 _
    have HSeq := Lib.hid (packStops hl rfl hb5 (by omega) (h.chg (Chg.of_below (fun _ => False) hb5) id id) hbp 2)
    have HI0 := Lib.hid hI0
    have HW4 := Lib.hid hw4
    have HW5 := Lib.hid (And.intro hw5 hs5)
    have HMany := Lib.hid h.ok.many
    have hfp : findP L s a e = match (toldP L).find? (hitP s a e) with | some x => (x.1 : Int) | none => -1 := by unfold findP; rw [if_neg h1]
    obtain ⟨rv, hrv⟩ : ∃ rv, findP L s a e = rv := ⟨_, rfl⟩
    rw [hrv] at hfp ⊢
    have HV := Lib.hid hfp
    clear hfp hrv
    have ha0 : 0 ≤ a := by omega
    have he1 : 1 ≤ e := by omega
    clear hw4 hw5 hs4 hb4 hs5 hb5 hbp hI0 h hl h1
    obtain ⟨tm, htm⟩ : ∃ tm : Array Value, tm = #[.pointer (some ⟨p, 0, none⟩), .string s, .int .i64 a, .int .i64 e, undef, .pointer (some ⟨w.heap.size, 0, none⟩), .pointer (some ⟨w.heap.size + 1, 0, none⟩), .pointer (some ⟨w.heap.size + 1 + 1, 0, none⟩), .pointer (some ⟨w.heap.size + 1 + 1 + 1, 0, none⟩), undef, undef, .int .i64 a, .bool false, .bool false, .int .i64 e, .bool false, .bool false, .pointer (some ⟨p, 0, none⟩), .func (.func 75) #[] #[.pointer (some ⟨w4.heap.size, 0, none⟩)], undef, undef, undef, undef, undef, undef, undef, undef, undef, undef, undef, undef, undef, undef, undef, undef, undef, undef, undef] := ⟨_, rfl⟩
    have HTm := Lib.hid htm
    clear htm
    refine callsIn_wide.1 (callsIn_of_wp_marks (n := 3) Tryd.func17 rfl trivial ?_ rfl)
    refine wpIn_wide.2 ?_
    simp only [Tryd.ntmps17, List.size_toArray, List.length_cons, List.length_nil, Nat.reduceAdd, Nat.reduceSub, Array.replicate_succ, Array.replicate_zero, List.push_toArray, List.append_toArray, List.nil_append, List.cons_append]
    go_wp2_with fail
    rw [← HW4.out]
    refine (HA.out w4).mono ?_
    rintro en w' ⟨rfl, hw'⟩
    obtain rfl : w' = w5 := hw'.trans HW5.out.1.symm
    clear hw'
    go_wp2_with fail
    refine (wpIn_wide (n := 3)).1 ?_
    refine wpIn_rangeFunc_ownH (F := Fence.wide) rfl (by omega) (gf := 75) (lb := #[.pointer (some ⟨w4.heap.size, 0, none⟩)]) rfl trivial (fun args w => rfl) HSeq.out KeepP.trans (fun W l o o' hle hl ho _ => KeepP.putObj W l o o' (by have := HW5.out.2; omega) hl ho) (Below.refl _ _) (fun _ => rfl)
      (FindI w w.heap.size w.heap.size s a e) (FindX w w.heap.size w.heap.size s a e) (FindI.own _ _ _ _ _ _ _ (by have := HW5.out.2; omega)) (fun c => FindX.own _ _ _ _ _ _ _ (by have := HW5.out.2; omega) c) HI0.out (fun x a' _ => a' = { tmps := (((tm.setIfInBounds 19 (.int .i64 x.1)).setIfInBounds 20 (.string x.2)).setIfInBounds 9 (.int .i64 x.1)).setIfInBounds 10 (.string x.2), defers := [] }) (fun x a' => fun _ _ _ _ h _ _ => h) ?assign ?body ?done ?stop
    case assign =>
      intro l pre x W K hI hK
      have HI := Lib.hid hI
      clear hI
      unfold encP
      gi_wp2
      refine hK _ _ (KeepsFrom.refl _ _) (KeepP.of_below (Below.refl _ _) HI.out.size) HI.out ?_
      rw [HTm.out]; rfl
    case body =>
      rintro l pre x a' W _ _ hI rfl hlen
      have HI := Lib.hid hI
      have x0 := cell_in hI.b0 (i := 0) rfl
      have x1 := cell_in hI.b1 (i := 0) rfl
      have x2 := cell_in hI.b2 (i := 0) rfl
      have x3 := cell_in hI.b3 (i := 0) rfl
      have f3 := frozen_in hI.b3 0
      clear hI
      rw [HTm.out]
      simp only [List.setIfInBounds_toArray, List.set_cons_succ, List.set_cons_zero]
      have HK := Lib.hid (show hitP s a e x = false → ownPostG w'.heap.size (KeepP w.heap.size w'.heap.size g) (FindI w w.heap.size w.heap.size s a e) (FindX w w.heap.size w.heap.size s a e) (pre ++ [x]) W .normal { tmps := #[], defers := [] } W from fun hx =>
        ⟨KeepsFrom.refl _ _, KeepP.of_below (Below.refl _ _) HI.out.size, { HI.out with none := by rw [List.find?_append, HI.out.none]; simp [hx] }⟩)
      have HX := Lib.hid (show hitP s a e x = true → ownPostG w'.heap.size (KeepP w.heap.size w'.heap.size g) (FindI w w.heap.size w.heap.size s a e) (FindX w w.heap.size w.heap.size s a e) (pre ++ [x]) W .ret { tmps := #[], defers := [] } (W.setCell ⟨w.heap.size + 1 + 1 + 1, 0, none⟩ (.int .i64 x.1)) from fun hx => by
        have hc : Chg (fun k => k = w.heap.size + 1 + 1 + 1) W (W.setCell ⟨w.heap.size + 1 + 1 + 1, 0, none⟩ (.int .i64 x.1)) := Chg.setCell _ _ _ _ rfl
        exact ⟨keepsFrom_ofP _ hc fun k hk o ho => by subst hk; rw [HI.out.b3] at ho; cases ho; rfl, rfl, belowChg HI.out.below hc HI.out.size fun k hk _ => by omega, Nat.le_trans HI.out.size hc.size, x, by rw [List.find?_append, HI.out.none]; simp [hx], setCell_head HI.out.b3 0 _⟩)
      gi_wp2
      all_goals first
        | exact HX.out (by simp_all [hitP])
        | (refine HK.out ?_
           unfold hitP
           rw [Bool.and_eq_false_iff, Bool.and_eq_false_iff]
           first
           | exact .inl (decide_eq_false (by omega))
           | exact .inr (.inl (by rw [beq_eq_false_iff_ne]; assumption))
           | exact .inr (.inr (by assumption)))
    case done =>
      rintro D xs W hD rfl hI hK
      have HI := Lib.hid hI
      have x3 := cell_in hI.b3 (i := 0) rfl
      have f3 := frozen_in hI.b3 0
      have hne : D ≠ w.heap.size + 1 + 1 + 1 := fun e => by subst e; rw [hI.b3] at hK; cases hK
      have h3 := setCell_head hI.b3 0 (.int .i64 (-1))
      have hK' : (W.setCell ⟨w.heap.size + 1 + 1 + 1, 0, none⟩ (.int .i64 (-1))).heap[D]? = some (.deferred (some [])) := by rw [Below.heap_setCell _ _ _ _ hne]; exact hK
      have hc : Chg (fun k => k = w.heap.size + 1 + 1 + 1) W (W.setCell ⟨w.heap.size + 1 + 1 + 1, 0, none⟩ (.int .i64 (-1))) := Chg.setCell _ _ _ _ rfl
      have hg := grownBy_putObj' (W.setCell ⟨w.heap.size + 1 + 1 + 1, 0, none⟩ (.int .i64 (-1))) D (.deferred none)
      have hB : Below w.heap.size w ((W.setCell ⟨w.heap.size + 1 + 1 + 1, 0, none⟩ (.int .i64 (-1))).putObj D (.deferred none)) :=
        grown_belowP (belowChg hI.below hc hI.size fun k hk _ => by omega) hg (fun r e => by cases e; exact hD) (by have := HW5.out.2; omega) (Nat.le_trans hI.size hc.size)
      have hcell : ((W.setCell ⟨w.heap.size + 1 + 1 + 1, 0, none⟩ (.int .i64 (-1))).putObj D (.deferred none)).cell? ⟨w.heap.size + 1 + 1 + 1, 0, none⟩ = some (.int .i64 (-1)) :=
        cell_in (grown_keepP hg (fun r e => by cases e; exact ⟨_, hK', rfl⟩) h3) rfl
      have HB := Lib.hid (And.intro hB (And.intro hcell hK'))
      obtain rfl : rv = -1 := by rw [HV.out, hI.none]
      clear hI hK hK' hc hg hB hcell h3 hne
      go_wp2_with fail
      refine ⟨by simp, .inl ⟨_, _, rfl, run_takeDeferred HB.out.2.2, ?_⟩⟩
      refine ⟨.int .i64 (-1), ?_, rfl, HB.out.1⟩
      have h := HB.out.2.1
      simp [results, Tryd.results17, go_sem, h]
    case stop =>
      rintro D c pre W hD hpre ⟨rfl, h2, h3, x, h4, h5⟩ hK
      have hg := grownBy_putObj' W D (.deferred none)
      have hB : Below w.heap.size w (W.putObj D (.deferred none)) := grown_belowP h2 hg (fun r e => by cases e; exact hD) (by have := HW5.out.2; omega) h3
      have hcell : (W.putObj D (.deferred none)).cell? ⟨w.heap.size + 1 + 1 + 1, 0, none⟩ = some (.int .i64 (x.1 : Nat)) :=
        cell_in (grown_keepP hg (fun r e => by cases e; exact ⟨_, hK, rfl⟩) h5) rfl
      have HB := Lib.hid (And.intro hB (And.intro hcell hK))
      obtain rfl : rv = (x.1 : Int) := by
        obtain ⟨t, ht⟩ := hpre
        rw [HV.out, ← ht, List.find?_append, h4]
        rfl
      clear hK hg hB hcell h2 h3 h4 h5
      gi_wp2
      refine ⟨by simp, .inl ⟨_, _, rfl, run_takeDeferred HB.out.2.2, ?_⟩⟩
      refine ⟨.int .i64 (x.1 : Nat), ?_, rfl, HB.out.1⟩
      have h := HB.out.2.1
      simp [results, Tryd.results17, go_sem, h]
end Go.Proofs.YtcoepekoacpgnaaDoor
