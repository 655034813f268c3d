/- radix: From's iterator. -/
import Derived.Test.YtbjpfnafhhbmaaaRad34
import Derived.RangeFuncNested
import Derived.RangeFuncBound
import Derived.RangeFuncCalls
import Derived.RangeFuncLeaves
import Derived.Shelf.Abstract
import Derived.OwnWalkIn
import Derived.TacticsInMore
import Derived.LoopNIn
import Derived.LoopIn
import Derived.ControlIn
namespace Go.Proofs.Ytbjpfnafhhbmaaa.Rad
open Go.Proofs.Ytbjpfnafhhbmaaa
set_option linter.unusedVariables false
set_option linter.unusedSimpArgs false
open Go.RowKit RT Go.Shelf
attribute [local go_sem] Oper.semAt_some
/-- What a thing is told as: its identifier's two numbers, the thing. -/
def itemOf (p : List UInt8 × VT) : Nat × Nat × VT := (valB (p.1.take 8), valB (p.1.drop 8), p.2)
def encs (x : Nat × Nat × VT) : Array Value := #[.agg #[.int .u64 x.1, .int .u64 x.2.1], vC x.2.2]
def itemsO : Option RT → List (List UInt8 × VT)
  | none => []
  | some t => RT.items t
def toldL (T : Option RT) (s : List UInt8) : List (Nat × Nat × VT) := (fromL s (itemsO T)).map itemOf
/-- What a round of a loop over From keeps: rows of entries. -/
def KeepE (W W' : World) : Prop := W.heap.size ≤ W'.heap.size ∧ ∀ (k : Nat) (cs : Array Value) (fz : Nat × Nat), W.heap[k]? = some (Obj.cells cs 61 fz) → W'.heap[k]? = some (Obj.cells cs 61 fz)
theorem KeepE.trans {A B C : World} (h : KeepE A B) (k : KeepE B C) : KeepE A C := ⟨Nat.le_trans h.1 k.1, fun i cs fz hi => k.2 i cs fz (h.2 i cs fz hi)⟩
theorem KeepE.putObj (W : World) (l : Nat) (o o' : Obj) (h : W.heap[l]? = some o) (ho : o.isCells = false) : KeepE W (W.putObj l o') := by
  refine ⟨by simp, fun k cs fz hk => ?_⟩
  by_cases e : k = l
  · subst e; rw [h] at hk; cases hk; cases ho
  · exact (World.putObj_heap_other e).trans hk
theorem KeepE.chg {S : Nat → Prop} {W W' : World} (h : Chg S W W') (hs : ∀ (k : Nat) (cs : Array Value) (fz : Nat × Nat), S k → W.heap[k]? ≠ some (Obj.cells cs 61 fz)) : KeepE W W' :=
  ⟨h.size, fun k cs fz hk => h.keep hk fun hS => hs k cs fz hS hk⟩
theorem radFrom (w : World) (p ms seq : Nat) : Calls Try.prog 21 #[.pointer (some ⟨p, 0, none⟩), .agg #[.int .u64 ms, .int .u64 seq]] w fun e w' => e = .returned (.func (.func 24) #[] #[.pointer (some ⟨w.heap.size, 0, none⟩), .pointer (some ⟨w.heap.size + 1, 0, none⟩)]) ∧
    w' = (w.alloc (.cells #[.pointer (some ⟨p, 0, none⟩)] 27)).alloc (.cells #[.int .u64 ms, .int .u64 seq] 25) := by
  go_enter Try.func21, Try.ntmps21
  go_wp2_with fail
  go_ret
  exact ⟨rfl, rfl⟩
theorem grown_of {W W' : World} (h : Below W.heap.size W W') : W.grownBy W' none := ⟨h.os, h.tape, h.output, h.size, fun k hk _ => h.block k hk⟩
theorem flat3 : ∀ (E : List (List UInt8 × VT)) (k : Nat) (h : k < E.length) (j : Nat), j < 3 → (E.flatMap entC).getD (k * 3 + j) undef = (entC E[k]).getD j undef
  | p :: E, 0, _, j, hj => by
    simp only [List.flatMap_cons, List.getD, Nat.zero_mul, Nat.zero_add, List.getElem_cons_zero]
    rw [List.getElem?_append_left (by simp [entC]; exact hj)]
  | p :: E, k + 1, h, j, hj => by
    have := flat3 E k (by simpa using h) j hj
    simp only [List.flatMap_cons, List.getD, List.getElem_cons_succ] at this ⊢
    rw [List.getElem?_append_right (by simp [entC]; omega), show (k + 1) * 3 + j - (entC p).length = k * 3 + j by simp [entC]; omega]
    exact this
theorem keep_slice {w w' : World} {B n : Nat} {v : Value} {xs : List Value} (hk : KeepE w w') (h : SliceN w B 61 3 v n xs) : SliceN w' B 61 3 v n xs := by
  refine ⟨h.1, h.2.imp id ?_⟩
  rintro ⟨g, cap, cur, rfl, h2, ⟨fz, h3, h4⟩, h5⟩
  exact ⟨g, cap, cur, rfl, h2, ⟨fz, h3, hk.2 _ _ _ h4⟩, h5⟩
set_option maxHeartbeats 6400000 in
set_option maxRecDepth 100000 in
theorem radIter1 {W : World} {p bt bi ms seq n l : Nat} {G : Nat → Prop} {T : Option RT} (h : TreeF W p G T n) (h1 : ms < 18446744073709551616) (h2 : seq < 18446744073709551616) (hbt : W.cell? ⟨bt, 0, none⟩ = some (.pointer (some ⟨p, 0, none⟩))) (hb0 : W.cell? ⟨bi, 0, none⟩ = some (.int .u64 ms)) (hb1 : W.cell? ⟨bi, 1, none⟩ = some (.int .u64 seq)) (hbi : W.heap[bi]? = some (.cells #[.int .u64 ms, .int .u64 seq] 25 (0, 0)))
    (hnodes : nodesO T ≤ 1000000) (J Jx : List (Nat × Nat × VT) → World → Prop) (hJ : AbidesFrom W.heap.size J) {m : Nat}
    (hY : ∀ pre x W1, J pre W1 → pre.length < (toldL T (idBytes ms seq)).length → YieldAt Fence.wide m Try.prog l (encs x) W1 fun e W' => (e = .returned (.bool true) ∧ J (pre ++ [x]) W' ∧ KeepE W1 W') ∨ (e = .returned (.bool false) ∧ Jx (pre ++ [x]) W'))
    (h0 : J [] W) : Calls Try.prog 24 #[.func (.yield l) #[] #[], .pointer (some ⟨bt, 0, none⟩), .pointer (some ⟨bi, 0, none⟩)] W fun e W' => (∃ v, e = .returned v) ∧
      ((∃ xs, xs = toldL T (idBytes ms seq) ∧ J xs W') ∨ ∃ pre, pre <+: toldL T (idBytes ms seq) ∧ Jx pre W') := by
  have HBy := Lib.hid (fun w => bytes_any ms seq h1 h2 w)
  have HH := Lib.hid h
  have HJ := Lib.hid hJ
  have HY := Lib.hid hY
  have H0 := Lib.hid h0
  have HN := Lib.hid hnodes
  have hblt := World.block_lt_of_cell? W _ hbt
  obtain ⟨hv, hh, hTn, hTs, hGp⟩ := h.head
  have hplt := heap_lt hh
  have HT := Lib.hid (And.intro hh (And.intro hTn (And.intro hTs hGp)))
  clear h hJ hY h0 hnodes h1 h2 hh hTn hTs hGp
  go_enter Try.func24, Try.ntmps24
  go_wp2_with fail
  refine (HBy.out _).mono ?_
  rintro e w2 ⟨bv, rfl, hs, hb2⟩
  obtain ⟨a, ca, rfl, hbi2⟩ := slice_bytes hs
  have hcv := conv_any hbi2 (idBytes_length ms seq)
  obtain ⟨S1, hS1⟩ : ∃ S1, strOf (idBytes ms seq) = S1 := ⟨_, rfl⟩
  rw [hS1] at hcv
  have HS1 := Lib.hid hS1
  obtain ⟨w3, hw3⟩ : ∃ w3, w3 = ((w2.alloc (.cells #[.string S1] 9)).alloc (.cells #[.slice none 0 0] 57)).alloc (.cells #[.func (.func 25) #[] #[.pointer (some ⟨w2.heap.size, 0, none⟩), .pointer (some ⟨w2.heap.size + 1, 0, none⟩), .pointer (some ⟨w2.heap.size + 2, 0, none⟩)]] 58) := ⟨_, rfl⟩
  clear hS1
  go_upto_region 5 with (fail)
  rw [← hw3]
  have hsz3 : w3.heap.size = w2.heap.size + 3 := by rw [hw3]; simp
  have hb3 : Below W.heap.size W w3 := by rw [hw3]; exact ((hb2.alloc hb2.size _).alloc (by simp; have := hb2.size; omega) _).alloc (by simp; have := hb2.size; omega) _
  have ls : w3.cell? ⟨w2.heap.size, 0, none⟩ = some (.string S1) := by
    rw [hw3]
    exact cell_in (heap_old (heap_old (heap_new _ _) _) _) rfl
  have ll : w3.heap[w2.heap.size + 1]? = some (.cells #[.slice none 0 0] 57 (0, 0)) := by
    rw [hw3]
    have := heap_new (w2.alloc (.cells #[.string S1] 9)) (.cells #[.slice none 0 0] 57)
    rw [World.size_alloc] at this
    exact heap_old this _
  have lw : w3.cell? ⟨w2.heap.size + 2, 0, none⟩ = some (.func (.func 25) #[] #[.pointer (some ⟨w2.heap.size, 0, none⟩), .pointer (some ⟨w2.heap.size + 1, 0, none⟩), .pointer (some ⟨w2.heap.size + 2, 0, none⟩)]) := by
    rw [hw3]
    have := heap_new ((w2.alloc (.cells #[.string S1] 9)).alloc (.cells #[.slice none 0 0] 57)) (.cells #[.func (.func 25) #[] #[.pointer (some ⟨w2.heap.size, 0, none⟩), .pointer (some ⟨w2.heap.size + 1, 0, none⟩), .pointer (some ⟨w2.heap.size + 2, 0, none⟩)]] 58)
    simp only [World.size_alloc] at this
    exact cell_in this rfl
  have bt3 : w3.cell? ⟨bt, 0, none⟩ = some (.pointer (some ⟨p, 0, none⟩)) := (hb3.cell (p := ⟨bt, 0, none⟩) hblt).trans hbt
  have hsz2 : W.heap.size ≤ w2.heap.size := hb2.size
  have HW3 := Lib.hid (And.intro hb3 ll)
  have hp3 : w3.cell? ⟨p, 1, none⟩ = some hv := (hb3.cell (p := ⟨p, 1, none⟩) hplt).trans (cell_in HT.out.1 rfl)
  clear hw3 hb2 hs hbi2 hcv hb3 hbt hb0 hb1 hbi
  cases T with
  | none =>
    have : hv = .pointer none := HT.out.2.1 rfl
    subst this
    have l0 := cell_in ll (i := 0) rfl
    go_wp2_with fail
    go_loopw [28] (fun i wr => i = .int .i64 0 ∧ ∃ d, wr = w3.drewN d) (fun _ _ => 0)
    case atStart => exact ⟨rfl, 0, rfl⟩
    case round =>
      obtain ⟨rfl, d, rfl⟩ := hrel
      go_wp2_with fail
      go_end0
      refine ⟨⟨_, rfl⟩, .inl ⟨[], rfl, ?_⟩⟩
      exact HJ.out [] W _ none H0.out (grown_of (belowN HW3.out.1 _)) (fun r e => by cases e)
  | some t =>
    obtain ⟨hGl, hwf, ro, x, own, hroot, hG⟩ := HH.out
    have hvx : hv = .pointer (some ⟨x, 0, none⟩) := by
      have e := HT.out.1.symm.trans hroot.1
      simp only [Option.some.injEq, Obj.cells.injEq, Array.mk.injEq, List.cons.injEq] at e
      exact e.1.2.1
    subst hvx
    have hn0 : RT.nodes t ≤ 1000000 := HN.out
    have hin : ∀ q, q ∈ own ∨ ro q → q < W.heap.size := fun q hq => hGl q (hG q (.inr hq))
    have hcc := Chg.of_below (fun _ => False) HW3.out.1
    have HWk := Lib.hid (radWalk (lst := idBytes ms seq) (idBytes_length ms seq) (Bs := w2.heap.size) (Bl := w2.heap.size + 1) (Bw := w2.heap.size + 2) (B0 := w2.heap.size + 3) (by omega) (by omega) (by omega) (by omega) (by omega) (RT.nodes t) (w := w3.drewN 1) (ro := ro) (u := t) (x := x) (own := own) (pre := []) (a := none) (n := 0) (ca := 0) (lv := .slice none 0 0) (ents := [])
      (Nat.le_refl _) ((hroot.2.1.chg hcc (fun _ _ => id) fun _ _ => id).chg (Chg.drewN (fun _ => False) w3 1) (fun _ _ => id) fun _ _ => id) hwf rfl (by omega) (.inl rfl) (fun q hq => by have := hin q hq; omega) ⟨by simp, .inl rfl⟩ (fun _ => rfl) (fun g o e => by cases e) (by rw [HS1.out]; exact ls) lw HW3.out.2 (SliceN.nil _ _ _ _) (by simp; omega) (by show _ ≤ w3.heap.size; omega))
    have hce : ∀ (w : World) (args : Array Value), (callFunc 25 args).run Try.prog w = .ok (.enter 25 args) w := fun w args => rfl
    obtain ⟨X1, f, hX1, hf, hF⟩ := classOf (fun w' => w'.cell? ⟨w2.heap.size + 2, 0, none⟩ = some (.func (.func 25) #[] #[.pointer (some ⟨w2.heap.size, 0, none⟩), .pointer (some ⟨w2.heap.size + 1, 0, none⟩), .pointer (some ⟨w2.heap.size + 2, 0, none⟩)]) ∧ w'.cell? ⟨bt, 0, none⟩ = some (.pointer (some ⟨p, 0, none⟩)) ∧ w'.cell? ⟨p, 1, none⟩ = some (.pointer (some ⟨x, 0, none⟩))) (w := w3) ⟨lw, bt3, hp3⟩
    have f1 := fun x => (hf x).1
    have f2 := fun x => (hf x).2.1
    have f3 := fun x => (hf x).2.2
    have HF := Lib.hid (hF w3.drew ⟨lw, bt3, hp3⟩)
    clear hF hf hcc hin hn0 hG hroot hwf hGl ll
    go_upto_region 6 with (fail)
    refine wp_region_text ⟨[5], [], 5⟩ (fun w' => ∃ x : X1, w' = f x) (by kernel_rfl) (by kernel_rfl) HF.out ?_
    refine wpC_seg false (HF.out) 5 0 _ _ (by rfl) (by rfl) ?_
    simp only [List.take_succ_cons, List.take_zero, List.drop_succ_cons, List.drop_zero, Bool.false_eq_true, if_false, Nat.zero_add, Nat.reduceAdd]
    repeat (go_big_quiet_step (fail))
    refine wpQuiet_nil ?_
    refine wpC_loud (by rfl) (by rfl) fun K hK => ?_
    go_wp2_with fail
    refine HWk.out.mono ?_
    rintro e w4 ⟨rfl, lv, q1, q2, q3, q4⟩
    refine hK _ _ (fun h => absurd h (by decide)) ?_
    clear hK
    refine wpC_nil ?_
    clear f1 f2 f3 hX1 HF f
    obtain ⟨al, cl, rfl, hle, hcm⟩ := q2.form
    obtain ⟨E, hE⟩ : ∃ E, fromL (idBytes ms seq) (RT.items t) = E := ⟨_, rfl⟩
    have hpn : pref [] (RT.items t) = RT.items t := by simp [pref]
    rw [hpn, hE, List.nil_append] at q2 hle
    rw [hpn, hE, List.nil_append] at q1
    obtain ⟨nl, hnl⟩ : ∃ nl, E.length = nl := ⟨_, rfl⟩
    have hnlb : nl ≤ 1000000 := by
      have h1 := @items_le t
      have h2 := List.length_filter_le (fun p : List UInt8 × VT => !decide (p.1 < idBytes ms seq)) (RT.items t)
      rw [← hnl, ← hE]
      unfold fromL
      have h3 : RT.nodes t ≤ 1000000 := HN.out
      omega
    rw [hnl] at q1 q2 hle
    have hb4 : Below W.heap.size W w4 := belowChg (belowN HW3.out.1 1) q3 (by show _ ≤ w3.heap.size; omega) fun k hk _ => by
      rcases hk with rfl | hk
      · omega
      · cases hk
    have hJ4 : J [] w4 := HJ.out [] W _ none H0.out (grown_of hb4) (fun r e => by cases e)
    have hL : toldL (some t) (idBytes ms seq) = E.map itemOf := by show (fromL _ (RT.items t)).map itemOf = _; rw [hE]
    have HL := Lib.hid hL
    have HYE := Lib.hid (show ∀ pre x W1, J pre W1 → pre.length < nl → YieldAt Fence.wide m Try.prog l (encs x) W1 fun e W' => (e = .returned (.bool true) ∧ J (pre ++ [x]) W' ∧ KeepE W1 W') ∨ (e = .returned (.bool false) ∧ Jx (pre ++ [x]) W') from fun pre x W1 hj hp => HY.out pre x W1 hj (by rw [hL, List.length_map, hnl]; exact hp))
    have l4 := cell_in q1 (i := 0) rfl
    have HQ := Lib.hid (And.intro q2 (And.intro hJ4 hb4))
    clear q1 q2 q3 q4 hb4 hJ4 hL HWk hp3 bt3 lw ls hpn
    go_wp2_with fail
    go_loopw [28] (fun i wr => ∃ k : Nat, k ≤ nl ∧ i = .int .i64 k ∧ Hid (J ((E.take k).map itemOf) wr ∧ SliceN wr (w2.heap.size + 3) 61 3 (.slice al nl cl) nl (E.flatMap entC) ∧ W.heap.size ≤ wr.heap.size)) (fun i _ => nl - (intOf i).toNat)
    case atStart =>
      refine ⟨0, Nat.zero_le _, rfl, Lib.hid ⟨?_, ?_, ?_⟩⟩
      · exact HQ.out.2.1
      · exact HQ.out.1
      · exact HQ.out.2.2.size
    case round =>
      obtain ⟨k, hk, rfl, hI⟩ := hrel
      by_cases hlt : k < nl
      · obtain ⟨g, cap, cur, he, hg, hrow, hcs, hnc, hcm2, htk⟩ := hI.out.2.1.2.resolve_left (by simp; omega)
        cases he
        have hEk : k < E.length := by omega
        have hcell : ∀ j, j < 3 → wr.cell? ⟨g, k * 3 + j, none⟩ = some ((entC E[k]).getD j undef) := fun j hj => by
          rw [hI.out.2.1.cell rfl (i := k * 3 + j) (by omega)]
          congr 1
          exact flat3 E k hEk j hj
        have c0 := hcell 0 (by omega)
        have c1 := hcell 1 (by omega)
        have c2 := hcell 2 (by omega)
        simp only [entC, List.getD_cons_zero, List.getD_cons_succ, Nat.add_zero] at c0 c1 c2
        obtain ⟨x0, hx0⟩ : ∃ x0 : Nat, valB (E[k].1.take 8) = x0 := ⟨_, rfl⟩
        obtain ⟨x1, hx1⟩ : ∃ x1 : Nat, valB (E[k].1.drop 8) = x1 := ⟨_, rfl⟩
        obtain ⟨x2, hx2⟩ : ∃ x2 : VT, E[k].2 = x2 := ⟨_, rfl⟩
        rw [hx0] at c0
        rw [hx1] at c1
        rw [hx2] at c2
        have hgr := hrow.lt
        have c2' : wr.cell? ⟨g, k * 3 + 1 + 1, none⟩ = some (vC x2) := c2
        obtain ⟨w5, hw5⟩ : ∃ w5, w5 = wr.alloc (.cells #[.int .u64 x0, .int .u64 x1, vC x2] 61) := ⟨_, rfl⟩
        have hb5 : Below wr.heap.size wr w5 := by rw [hw5]; exact (Below.refl _ _).alloc (Nat.le_refl _) _
        have hJ5 : J ((E.take k).map itemOf) w5 := HJ.out _ wr _ none hI.out.1 (grown_of hb5) (fun r e => by cases e)
        have hs5 := hI.out.2.1.below hb5
        have hx5 : w5.heap[wr.heap.size]? = some (.cells #[.int .u64 x0, .int .u64 x1, vC x2] 61 (0, 0)) := by rw [hw5]; exact heap_new _ _
        have y0 := cell_in hx5 (i := 0) rfl
        have y1 := cell_in hx5 (i := 1) rfl
        have y2 := cell_in hx5 (i := 2) rfl
        obtain ⟨fn, tmps, assign, body, hy, hR⟩ := HYE.out ((E.take k).map itemOf) (x0, x1, x2) w5 hJ5 (by rw [List.length_map, List.length_take]; omega)
        have hsucc : (E.take k).map itemOf ++ [(x0, x1, x2)] = (E.take (k + 1)).map itemOf := by
          rw [List.take_succ_eq_append_getElem hEk, List.map_append]
          simp [itemOf, hx0, hx1, hx2]
        rw [hsucc] at hR
        have HR := Lib.hid hR
        have HS5 := Lib.hid (And.intro hs5 (And.intro hb5.size (And.intro (heap_lt hx5) hI.out.2.2)))
        have HW5 := Lib.hid hw5
        have HLt := Lib.hid hlt
        dsimp only [encs] at hy
        clear hw5 hb5 hJ5 hs5 hx5 hR hsucc hcell hrow htk hx0 hx1 hx2 hI
        go_upto_region 10 with (fail)
        rw [← HW5.out]
        clear c0 c1 c2 c2'
        refine (wpIn_wide (n := m + 1)).1 ?_
        gi_wp2
        refine HR.out.mono ?_
        rintro e w6 (⟨rfl, hJ6, hk6⟩ | ⟨rfl, hx6⟩)
        · have HJ6 := Lib.hid (And.intro hJ6 hk6)
          clear hJ6 hk6 HR hy
          gi_wp2
          go_wp2_with fail
          go_roundw
          case rel =>
            have hlt := HLt.out
            refine ⟨k + 1, by omega, by go_num, Lib.hid ⟨HJ6.out.1, ?_, ?_⟩⟩
            · exact keep_slice HJ6.out.2 HS5.out.1
            · exact Nat.le_trans HS5.out.2.2.2 (Nat.le_trans HS5.out.2.1 HJ6.out.2.1)
          case measure =>
            have hlt := HLt.out
            simp [intOf]
            omega
        · have HJ6 := Lib.hid hx6
          clear hx6 HR hy
          gi_wp2
          go_wp2_with fail
          refine bodyPost_ret (results_none rfl _ _ _) rfl ?_
          rw [HL.out]
          exact ⟨⟨_, rfl⟩, .inr ⟨_, List.IsPrefix.map _ (List.take_prefix _ _), HJ6.out⟩⟩
      · have hkn : k = nl := by omega
        subst hkn
        have HJ6 := Lib.hid hI.out.1
        have HEl := Lib.hid (show E.take k = E from List.take_of_length_le (by omega))
        clear hI
        go_wp2_with fail
        go_end0
        rw [HL.out]
        exact ⟨⟨_, rfl⟩, .inl ⟨_, rfl, by have := HJ6.out; rw [HEl.out] at this; exact this⟩⟩
end Go.Proofs.Ytbjpfnafhhbmaaa.Rad
