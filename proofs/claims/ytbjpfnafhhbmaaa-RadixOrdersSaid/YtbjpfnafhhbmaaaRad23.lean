/- radix: Put of what is there; Put into a tree without things. -/
import Derived.Test.YtbjpfnafhhbmaaaRad22
namespace Go.Proofs.Ytbjpfnafhhbmaaa.Rad
open Go.Proofs.Ytbjpfnafhhbmaaa
set_option linter.unusedVariables false
set_option linter.unusedSimpArgs false
open Go.RowKit RT
theorem alikeN_self : ∀ s : List UInt8, alikeN s s = s.length
  | [] => rfl
  | x :: s => by simp [alikeN, alikeN_self s]
theorem RT.put_leaf (s : List UInt8) (v v' : VT) (k : List RT) : RT.put (.mk s v k) s v' = .mk s v' k := by
  rw [RT.put, alikeN_self, if_neg (by omega)]
  simp
theorem put_back {w w' : World} {p : Nat} {G : Nat → Prop} {ro : Nat → Prop} {t : RT} {x n : Nat} {own : List Nat} {s : List UInt8} {v0 v : VT} {y : Nat} {o : List Nat} {s' : List UInt8} {ab : List Nat} {c d : Nat} {K : RT → RT} {w0 : World}
    (hs : s.length = 16) (hG : ∀ k, k = p ∨ k ∈ own ∨ ro k → G k) (hGl : ∀ k, G k → k < w0.heap.size) (h0 : Below w0.heap.size w0 w) (hw : WF 16 t)
    (hway : Way w ro p n t x own s (.mk s' v0 []) y o s' ab c d K) (hb : Below w.heap.size w w') :
    ∃ G', TreeF (w'.setCell ⟨y, 2, none⟩ (vC v)) p G' (putO (some t) s v) n ∧ Fresh w0 G G' ∧ Chg G w0 (w'.setCell ⟨y, 2, none⟩ (vC v)) := by
  obtain ⟨a, ca, kv, xs, rows, hp, ho⟩ := parts_of hway.node
  have hp' := hp.below hb
  have hsub := hway.sub
  have hyo : y ∈ o := by rw [ho]; simp
  have hc1 : Chg (fun k => k = y) w (w'.setCell ⟨y, 2, none⟩ (vC v)) := (Chg.of_below (fun k => k = y) hb).trans (Chg.setCell (fun k => k = y) _ _ _ rfl) fun _ h _ => h
  have e := setCell_eq_setRow w' y 2 _ _ _ (vC v) hp'.1
  have hk : ∀ q, q ∈ own → q < w.heap.size ∧ ¬ ro q := fun q hq => by have := hway.root.2.2.2 q (by simp [hq]); exact ⟨this.2, this.1⟩
  have hkvy : ∀ g, vblock kv = some g → g ≠ y := fun g hg e => by
    have := hsub.2.1
    rw [ho, hg, e] at this
    simp at this
  have hn : NodeAt (w'.setCell ⟨y, 2, none⟩ (vC v)) ro (.mk s' v []) y o := by
    rw [NodeAt]
    have hcs : Chg (fun k => k = y) w' (w'.setCell ⟨y, 2, none⟩ (vC v)) := Chg.setCell (fun k => k = y) _ _ _ rfl
    have hro : ∀ k, ro k → ¬ k = y := fun k hk' e => (hk y (hsub.1 y hyo)).2 (e ▸ hk')
    have h4 := hp'.2.2.2
    rw [NodesAt] at h4
    refine ⟨a, ca, kv, xs, rows, by rw [e]; exact heap_setRow hp'.1 _, hp'.2.1.chg hcs hro, hp'.2.2.1.chg hcs fun g hg => hkvy g hg, by rw [NodesAt]; exact h4, ho⟩
  have hpl := hway.plain (by rw [hs]; exact hw)
  have hput : RT.put t s v = K (.mk s' v []) := by rw [hpl.2.2.1, RT.put_leaf]
  have hWF : WF 16 (K (.mk s' v [])) := by rw [← hput]; exact WF_put v hw hs
  obtain ⟨G', h1, h2, h3⟩ := hway.done (w0 := w0) (G := G) (hG p (.inl rfl)) (fun k hk => hG k (.inr (.inl hk))) (fun k hk => ⟨.inl (hG k (.inr (.inr hk))), Nat.lt_of_lt_of_le (hGl k (hG k (.inr (.inr hk)))) h0.size⟩) hGl (Chg.of_below G h0)
    (hc1.mono fun k hk _ => .inl (hk ▸ hyo)) (SetAt.same hc1 (fun e => hsub.2.2.1 (e ▸ hyo)) hway.cell.1) hn hsub.2.1 (fun k hk' => ⟨.inl hk', Nat.lt_of_lt_of_le (hk k (hsub.1 k hk')).1 hc1.size⟩) hWF
  exact ⟨G', by rw [show putO (some t) s v = some (K (.mk s' v [])) by show some (RT.put t s v) = _; rw [hput]]; exact h1, h2, h3⟩
set_option maxHeartbeats 800000 in
set_option maxRecDepth 100000 in
theorem radPut_old {w : World} {p : Nat} {G : Nat → Prop} {T : Option RT} {n : Nat} (h : TreeF w p G T n) {ms seq : Nat} (h1 : ms < 18446744073709551616) (h2 : seq < 18446744073709551616) (v : VT) (hl : lookO T (idBytes ms seq) ≠ none) :
    Calls Try.prog 10 #[ptrV p, .agg #[.int .u64 ms, .int .u64 seq], vC v] w fun e w' => e = .returned (.bool false) ∧ ∃ G', TreeF w' p G' (putO T (idBytes ms seq) v) n ∧ Fresh w G G' ∧ Chg G w w' := by
  have HF := Lib.hid (fun w' (hb : Below w.heap.size w w') a ca (ha : BytesIn w' a (idBytes ms seq) ca) => radFindF (h.below hb) (idBytes_length ms seq) ha)
  have HBy := Lib.hid (fun w => bytes_any ms seq h1 h2 w)
  obtain ⟨hv, hh, _⟩ := h.head
  have hplt := heap_lt hh
  have c0 := cell_in hh (i := 0) rfl
  have HT := Lib.hid h.1
  obtain ⟨w1, hw1⟩ : ∃ w1, w1 = w.alloc (.cells #[.int .u64 ms, .int .u64 seq] 25) := ⟨_, rfl⟩
  have hb1 : Below w.heap.size w w1 := by rw [hw1]; exact (Below.refl _ _).alloc (Nat.le_refl _) _
  have HW := Lib.hid hw1
  have HB1 := Lib.hid hb1
  have HL := Lib.hid hl
  clear h h1 h2 hw1 hb1 hl hh
  unfold ptrV at *
  go_enter Try.func10, Try.ntmps10
  go_wp2_with fail
  rw [← HW.out]
  refine (HBy.out _).mono ?_
  rintro e w2 ⟨bv, rfl, hs, hb⟩
  obtain ⟨a, ca, rfl, hbi⟩ := slice_bytes hs
  have HB2 := Lib.hid (HB1.out.trans (hb.mono HB1.out.size))
  have HBi := Lib.hid hbi
  clear hs hb hbi
  go_wp2_with fail
  refine (HF.out w2 HB2.out a ca HBi.out).mono ?_
  rintro e w3 ⟨hb3, hcase⟩
  obtain ⟨ro, t, x, own, v0, y, o, s', ab, c, d, K, va, rfl, hw, hG, hl, hway, rfl, hsl⟩ := hcase.resolve_left (fun h => HL.out h.1)
  obtain ⟨a', ca', kv, xs, rows, hp, ho⟩ := parts_of hway.node
  have hp3 := (hp.below hb3).1
  have y2 := cell_in hp3 (i := 2) rfl
  have f2 := frozen_in hp3 2
  obtain ⟨a5, c5, rfl, _⟩ := hsl.arg
  have HFin := Lib.hid (put_back (v := v) (idBytes_length ms seq) hG HT.out HB2.out hw hway hb3)
  clear hp3 hp ho hway hl hG hsl hb3 hw hcase
  go_wp2_with fail
  go_ret
  exact ⟨rfl, HFin.out⟩
theorem slice_ro {w : World} {B : Nat} {a : Option Addr} {n ca : Nat} {xs : List UInt8} (h : SliceIs w B 5 (.slice a n ca) n (xs.map u8v)) : BytesRo w (fun k => vblock (.slice a n ca) = some k) a xs ca := by
  have hl : xs.length = n := by have := h.1; simpa using this
  rcases h.2 with ⟨he, rfl⟩ | ⟨g, cap, cur, he, _, h3, h4, h5, _, h7⟩
  · cases he
    exact ⟨by omega, .inl hl⟩
  · cases he
    refine ⟨by omega, .inr ⟨g, 0, rfl, rfl, h3.lt, fun i hi => h3.cell ?_⟩⟩
    have e := congrArg (fun l => l[i]?) h7
    simp only [List.getElem?_take_of_lt (show i < n by omega), Array.getElem?_toList] at e
    rw [Nat.zero_add, e]
    simp [List.getD, hi]
theorem put_first {w w1 w4 : World} {p : Nat} {G : Nat → Prop} {n : Nat} {a : Option Addr} {ca : Nat} {s : List UInt8} {v : VT} (h : TreeF w p G none n) (hh : w4.heap[p]? = some (.cells #[.bool true, .pointer none, .int .i64 ((n : Int) + 1)] 40 (0, 0)))
    (hc : Chg (fun k => k = p) w w4) (hs : s.length = 16) (hw1 : w.heap.size ≤ w1.heap.size) (hsl : SliceIs w4 w1.heap.size 5 (.slice a 16 ca) 16 (s.map u8v)) :
    ∃ G', TreeF ((w4.alloc (.cells #[.slice a 16 ca, .slice none 0 0, vC v] 45)).setCell ⟨p, 1, none⟩ (.pointer (some ⟨w4.heap.size, 0, none⟩))) p G' (putO none s v) (n + 1) ∧ Fresh w G G' ∧
      Chg G w ((w4.alloc (.cells #[.slice a 16 ca, .slice none 0 0, vC v] 45)).setCell ⟨p, 1, none⟩ (.pointer (some ⟨w4.heap.size, 0, none⟩))) := by
  obtain ⟨w5, hw5⟩ : ∃ w5, w5 = w4.alloc (.cells #[.slice a 16 ca, .slice none 0 0, vC v] 45) := ⟨_, rfl⟩
  obtain ⟨w6, hw6⟩ : ∃ w6, w6 = w5.setCell ⟨p, 1, none⟩ (.pointer (some ⟨w4.heap.size, 0, none⟩)) := ⟨_, rfl⟩
  rw [← hw5, ← hw6]
  have hp4 := heap_lt hh
  have hp5 : w5.heap[p]? = some (.cells #[.bool true, .pointer none, .int .i64 ((n : Int) + 1)] 40 (0, 0)) := by rw [hw5]; exact heap_old hh _
  have hp6 : w6.heap[p]? = some (.cells #[.bool true, ptrV w4.heap.size, .int .i64 ((n : Int) + 1)] 40 (0, 0)) := by rw [hw6]; exact setCell_head hp5 1 _
  have hc56 : Chg (fun k => k = p) w5 w6 := by rw [hw6]; exact Chg.setCell _ _ _ _ rfl
  have hc45 : Chg (fun k => k = p) w4 w5 := by rw [hw5]; exact Chg.alloc _ _ _
  have hc46 := hc45.trans hc56 fun _ h _ => h
  have hn5 : w5.heap[w4.heap.size]? = some (.cells #[.slice a 16 ca, .slice none 0 0, vC v] 45 (0, 0)) := by rw [hw5]; exact heap_new _ _
  have hn6 := hc56.keep hn5 (by omega)
  have hpw := heap_lt h.2.1
  have hbl : ∀ k, vblock (.slice a 16 ca) = some k → w.heap.size ≤ k ∧ k < w4.heap.size := fun k hk => by have := hsl.block_lt hk; omega
  have hsl6 := hsl.chg hc46 fun k hk e => by have := hbl k hk; omega
  have h6 : w6.heap.size = w4.heap.size + 1 := by rw [hw6, hw5]; simp [World.setCell]
  have hsz := hc.size
  refine ⟨fun k => (G k ∨ w.heap.size ≤ k) ∧ k < w6.heap.size, ⟨fun k hk => hk.2, ?_⟩, fun k hk => hk.1, (hc.trans hc46 fun _ h _ => h).mono fun k hk _ => hk ▸ h.2.2⟩
  show WF 16 (RT.mk s v []) ∧ _
  refine ⟨by rw [WF]; exact ⟨by omega, .inl ⟨rfl, hs⟩⟩, fun k => vblock (.slice a 16 ca) = some k, w4.heap.size, [w4.heap.size], ⟨hp6, ?_, by simp; omega, ?_⟩, ?_⟩
  · rw [NodeAt]
    exact ⟨a, ca, .slice none 0 0, [], [], by rw [hs]; exact hn6, slice_ro hsl6, SliceIs.nil _ _ _, by rw [NodesAt]; exact ⟨rfl, rfl⟩, by simp [vblock]⟩
  · intro k hk
    simp only [List.mem_cons, List.not_mem_nil, or_false] at hk
    refine ⟨fun e => ?_, by omega⟩
    have := hbl k e
    omega
  · rintro k (rfl | hk | hk)
    · exact ⟨.inl h.2.2, by omega⟩
    · simp only [List.mem_cons, List.not_mem_nil, or_false] at hk
      exact ⟨.inr (by omega), by omega⟩
    · have := hbl k hk
      exact ⟨.inr this.1, by omega⟩
set_option maxHeartbeats 800000 in
set_option maxRecDepth 100000 in
theorem radPut_first {w : World} {p : Nat} {G : Nat → Prop} {n : Nat} (h : TreeF w p G none n) {ms seq : Nat} (h1 : ms < 18446744073709551616) (h2 : seq < 18446744073709551616) (v : VT) (hn : n ≤ 1000000000) :
    Calls Try.prog 10 #[ptrV p, .agg #[.int .u64 ms, .int .u64 seq], vC v] w fun e w' => e = .returned (.bool true) ∧ ∃ G', TreeF w' p G' (putO none (idBytes ms seq) v) (n + 1) ∧ Fresh w G G' ∧ Chg G w w' := by
  have HF := Lib.hid (fun w' (hb : Below w.heap.size w w') a ca (ha : BytesIn w' a (idBytes ms seq) ca) => radFindF (h.below hb) (idBytes_length ms seq) ha)
  have HBy := Lib.hid (fun w => bytes_any ms seq h1 h2 w)
  have hh := h.2.1
  have hplt := heap_lt hh
  have c0 := cell_in hh (i := 0) rfl
  have HT := Lib.hid h
  obtain ⟨w1, hw1⟩ : ∃ w1, w1 = w.alloc (.cells #[.int .u64 ms, .int .u64 seq] 25) := ⟨_, rfl⟩
  have hb1 : Below w.heap.size w w1 := by rw [hw1]; exact (Below.refl _ _).alloc (Nat.le_refl _) _
  have HW := Lib.hid hw1
  have HB1 := Lib.hid hb1
  have HH := Lib.hid hh
  clear h h1 h2 hw1 hb1 hh
  unfold ptrV at *
  go_enter Try.func10, Try.ntmps10
  go_wp2_with fail
  rw [← HW.out]
  refine (HBy.out _).mono ?_
  rintro e w2 ⟨bv, rfl, hs, hb⟩
  obtain ⟨a, ca, rfl, hbi⟩ := slice_bytes hs
  have HB2 := Lib.hid (HB1.out.trans (hb.mono HB1.out.size))
  have HBi := Lib.hid hbi
  have HSb := Lib.hid hs
  clear hs hb hbi
  go_wp2_with fail
  refine (HF.out w2 HB2.out a ca HBi.out).mono ?_
  rintro e w3 ⟨hb3, hcase⟩
  have hno : ¬ ∃ ro t x own v y o s' ab c d K va, (none : Option RT) = some t ∧ WF 16 t ∧ (∀ k, k = p ∨ k ∈ own ∨ ro k → G k) ∧ RT.look t (idBytes ms seq) = some v ∧ Way w2 ro p n t x own (idBytes ms seq) (.mk s' v []) y o s' ab c d K ∧ e = .returned (.tuple #[.pointer (some ⟨y, 0, none⟩), va]) ∧ SliceIs w3 w2.heap.size 38 va ab.length (ab.map ptrV) := by
    rintro ⟨ro, t, x, own, v0, y, o, s', ab, c, d, K, va, h, _⟩
    cases h
  obtain ⟨_, rfl⟩ := hcase.resolve_right hno
  have hb13 := HB2.out.trans (hb3.mono HB2.out.size)
  have hh3 : w3.heap[p]? = some (.cells #[.bool true, .pointer none, .int .i64 n] 40 (0, 0)) := (hb13.block p hplt).trans HH.out
  have d1 := cell_in hh3 (i := 1) rfl
  have d2 := cell_in hh3 (i := 2) rfl
  have f1 := frozen_in hh3 1
  have f2 := frozen_in hh3 2
  have hp3 := heap_lt hh3
  obtain ⟨w4, hw4⟩ : ∃ w4, w4 = w3.setCell ⟨p, 2, none⟩ (.int .i64 ((n : Int) + 1)) := ⟨_, rfl⟩
  have hh4 : w4.heap[p]? = some (.cells #[.bool true, .pointer none, .int .i64 ((n : Int) + 1)] 40 (0, 0)) := by rw [hw4]; exact setCell_head hh3 2 _
  have hc4 : Chg (fun k => k = p) w w4 := (Chg.of_below _ hb13).trans (show Chg (fun k => k = p) w3 w4 by rw [hw4]; exact Chg.setCell _ _ _ _ rfl) fun _ h _ => h
  have hbw4 : w2.heap.size ≤ w4.heap.size ∧ SliceIs w4 w1.heap.size 5 (.slice a 16 ca) 16 ((idBytes ms seq).map u8v) := by
    have h34 : Chg (fun k => k = p) w3 w4 := by rw [hw4]; exact Chg.setCell _ _ _ _ rfl
    refine ⟨Nat.le_trans hb3.size h34.size, (HSb.out.below hb3).chg h34 fun k hk e => ?_⟩
    have := (HSb.out.block_lt hk).1
    have := HB1.out.size
    omega
  have HW4 := Lib.hid hw4
  have HB4 := Lib.hid (And.intro hh4 (And.intro hc4 hbw4))
  have e1 := cell_in hh4 (i := 1) rfl
  have g1 := frozen_in hh4 1
  have hp4 := heap_lt hh4
  clear hh3 hb13 hb3 hno hcase hw4 hh4 hc4 hbw4
  go_wp2_with fail
  rw [← HW4.out]
  clear d1 d2 f1 f2 hp3
  go_loopw [7, 10] (fun bv at_ wr => bv = .slice a 16 ca ∧ at_ = .pointer (some ⟨p, 1, none⟩) ∧ wr = w4) (fun _ _ _ => 0)
  case atStart => exact ⟨rfl, rfl, rfl⟩
  case round =>
    obtain ⟨rfl, rfl, rfl⟩ := hrel
    go_wp2_with fail
    go_ret
    rw [← World.setCell_alloc_past _ _ _ _ hp4]
    exact ⟨rfl, put_first HT.out HB4.out.1 HB4.out.2.1 (idBytes_length ms seq) (Nat.le_trans HB1.out.size (Nat.le_refl _)) HB4.out.2.2.2⟩
end Go.Proofs.Ytbjpfnafhhbmaaa.Rad
