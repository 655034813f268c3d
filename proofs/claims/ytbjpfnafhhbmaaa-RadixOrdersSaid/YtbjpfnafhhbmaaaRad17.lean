/- radix: a way down a tree, and what a change at its end makes of the tree. -/
import Derived.Test.YtbjpfnafhhbmaaaRad16
namespace Go.Proofs.Ytbjpfnafhhbmaaa.Rad
open Go.Proofs.Ytbjpfnafhhbmaaa
set_option linter.unusedVariables false
set_option linter.unusedSimpArgs false
open Go.RowKit RT
/-- Block g is as it was, but for one cell. -/
def SetAt (w w' : World) (g i : Nat) (u : Value) : Prop := ∀ cs E fz, w.heap[g]? = some (.cells cs E fz) → w'.heap[g]? = some (.cells (cs.setIfInBounds i u) E fz)
theorem slot_set {w w' : World} {B : Nat} {e : TypeId} {v : Value} {n g i : Nat} {xs : List Value} {u : Value} (h : SliceIs w B e v n xs) (hg : vblock v = some g) (hs : SetAt w w' g i u) (hi : i < n) : SliceIs w' B e v n (xs.set i u) := by
  refine ⟨by simp [h.1], ?_⟩
  rcases h.2 with ⟨rfl, rfl⟩ | ⟨g', cap, cur, rfl, h2, ⟨fz, h3, h4⟩, h5, h6, h7, h8⟩
  · cases hg
  · cases hg
    refine .inr ⟨g', cap, cur.setIfInBounds i u, rfl, h2, ⟨fz, by simpa using h3, hs _ _ _ h4⟩, by simpa using h5, h6, h7, ?_⟩
    rw [← h8, Array.toList_setIfInBounds, List.take_set]
theorem NodesAt.cut {w : World} {ro : Nat → Prop} : ∀ {l : List RT} {xs own : List Nat}, NodesAt w ro l xs own → ∀ i (h : i < l.length), ∃ pre oi post, own = pre ++ (oi ++ post) ∧ NodeAt w ro l[i] (xs.getD i 0) oi ∧
    ∀ (S ro' : Nat → Prop) (w' : World) (u' : RT) (y' : Nat) (oi' : List Nat), Chg S w w' → (∀ k ∈ pre ++ post, ¬ S k) → (∀ k, ro k → ro' k ∧ ¬ S k) → NodeAt w' ro' u' y' oi' → NodesAt w' ro' (l.set i u') (xs.set i y') (pre ++ (oi' ++ post))
  | [], xs, own, h, i, hi => by simp at hi
  | t :: l, xs, own, h, i, hi => by
    rw [NodesAt] at h
    obtain ⟨x, ys, o1, o2, rfl, h2, h3, rfl⟩ := h
    cases i with
    | zero =>
      refine ⟨[], o1, o2, rfl, by simpa using h2, fun S ro' w' u' y' oi' hc hS hr hn => ?_⟩
      simp only [List.set_cons_zero, List.nil_append]
      rw [NodesAt]
      exact ⟨y', ys, oi', o2, rfl, hn, (h3.chg hc (fun k hk => (hr k hk).2) (fun k hk => hS k (by simpa using hk))).ro fun k hk => (hr k hk).1, rfl⟩
    | succ i =>
      obtain ⟨pre, oi, post, rfl, h4, h5⟩ := NodesAt.cut h3 i (by simpa using hi)
      refine ⟨o1 ++ pre, oi, post, by simp, by simpa using h4, fun S ro' w' u' y' oi' hc hS hr hn => ?_⟩
      simp only [List.set_cons_succ]
      rw [NodesAt]
      refine ⟨x, ys.set i y', o1, pre ++ (oi' ++ post), rfl, (h2.chg hc (fun k hk => (hr k hk).2) fun k hk => hS k (by simp [hk])).ro fun k hk => (hr k hk).1, h5 S ro' w' u' y' oi' hc (fun k hk => hS k (by rcases List.mem_append.1 hk with h | h <;> simp [h])) hr hn, by simp⟩
/-- Node z is the one at place i below node y, of the row g. -/
def KidAt (w : World) (ro : Nat → Prop) (b : List UInt8) (v : VT) (k : List RT) (y : Nat) (o : List Nat) (i z : Nat) (oi : List Nat) (g : Nat) : Prop :=
  ∃ a ca kv xs pre post, w.heap[y]? = some (.cells #[.slice a b.length ca, kv, vC v] 45 (0, 0)) ∧ BytesRo w ro a b ca ∧ SliceIs w 0 38 kv k.length (xs.map ptrV) ∧
    vblock kv = some g ∧ z = xs.getD i 0 ∧ i < k.length ∧ o = y :: ((vblock kv).toList ++ (pre ++ (oi ++ post))) ∧ NodesAt w ro k xs (pre ++ (oi ++ post)) ∧
    (∀ (h : i < k.length), NodeAt w ro k[i] z oi) ∧
    ∀ (S ro' : Nat → Prop) (w' : World) (u' : RT) (y' : Nat) (oi' : List Nat), Chg S w w' → (∀ k ∈ pre ++ post, ¬ S k) → (∀ k, ro k → ro' k ∧ ¬ S k) → NodeAt w' ro' u' y' oi' → NodesAt w' ro' (k.set i u') (xs.set i y') (pre ++ (oi' ++ post))
theorem kid_of {w : World} {ro : Nat → Prop} {b : List UInt8} {v : VT} {k : List RT} {y : Nat} {o : List Nat} (h : NodeAt w ro (.mk b v k) y o) {i : Nat} (hi : i < k.length) : ∃ z oi g, KidAt w ro b v k y o i z oi g := by
  rw [NodeAt] at h
  obtain ⟨a, ca, kv, xs, rows, h1, h2, h3, h4, h5⟩ := h
  obtain ⟨pre, oi, post, rfl, h6, h7⟩ := h4.cut i hi
  obtain ⟨g, hg⟩ : ∃ g, vblock kv = some g := by
    rcases h3.2 with ⟨_, h0⟩ | ⟨g, _, _, rfl, _⟩
    · omega
    · exact ⟨g, rfl⟩
  exact ⟨_, oi, g, a, ca, kv, xs, pre, post, h1, h2, h3, hg, rfl, hi, h5, h4, fun _ => h6, h7⟩
/-- A tree with a root, its own blocks in a list. -/
def RootAt (w : World) (ro : Nat → Prop) (p n : Nat) (t : RT) (x : Nat) (own : List Nat) : Prop :=
  w.heap[p]? = some (.cells #[.bool true, ptrV x, .int .i64 n] 40 (0, 0)) ∧ NodeAt w ro t x own ∧ (p :: own).Nodup ∧ ∀ k ∈ p :: own, ¬ ro k ∧ k < w.heap.size
/-- A way down tree p, of bytes s: it ends at node y (the subtree u, of blocks o; the bytes s' are left), whose pointer lies in the cell A; above: the nodes above; K: the whole tree out of the subtree. -/
inductive Way (w : World) (ro : Nat → Prop) (p n : Nat) (t : RT) (x : Nat) (own : List Nat) (s : List UInt8) : RT → Nat → List Nat → List UInt8 → List Nat → Nat → Nat → (RT → RT) → Prop
  | here (h : RootAt w ro p n t x own) : Way w ro p n t x own s t x own s [] p 1 id
  | down {b : List UInt8} {v : VT} {k : List RT} {y : Nat} {o : List Nat} {s' : List UInt8} {ab : List Nat} {c d : Nat} {K : RT → RT} {i z : Nat} {oi : List Nat} {g : Nat} {u : RT}
      (h : Way w ro p n t x own s (.mk b v k) y o (b ++ s') ab c d K) (hk : KidAt w ro b v k y o i z oi g) (hu : k[i]? = some u) (hs : s' ≠ []) (hf : u.first = s'.getD 0 0) :
      Way w ro p n t x own s u z oi s' (ab ++ [y]) g i fun u' => K (.mk b v (k.set i u'))
section
variable {w : World} {ro : Nat → Prop} {p n : Nat} {t : RT} {x : Nat} {own : List Nat} {s : List UInt8} {u : RT} {y : Nat} {o : List Nat} {s' : List UInt8} {ab : List Nat} {c d : Nat} {K : RT → RT}
theorem Way.root (h : Way w ro p n t x own s u y o s' ab c d K) : RootAt w ro p n t x own := by
  induction h with
  | here h => exact h
  | down _ _ _ _ _ ih => exact ih
theorem Way.node (h : Way w ro p n t x own s u y o s' ab c d K) : NodeAt w ro u y o := by
  cases h with
  | here h => exact h.2.1
  | down h hk hu hs hf =>
    obtain ⟨a, ca, kv, xs, pre, post, h1, h2, h3, h4, h5, h6, h7, h8, h9, h10⟩ := hk
    obtain ⟨hi, hu⟩ := List.getElem?_eq_some_iff.1 hu
    rw [← hu]; exact h9 h6
theorem Way.sub (h : Way w ro p n t x own s u y o s' ab c d K) : (∀ k ∈ o, k ∈ own) ∧ o.Nodup ∧ c ∉ o ∧ c ∈ p :: own := by
  induction h with
  | here h =>
    have := h.2.2.1
    rw [List.nodup_cons] at this
    exact ⟨fun _ h => h, this.2, this.1, by simp⟩
  | down h hk hu hs hf ih =>
    obtain ⟨a, ca, kv, xs, pre, post, h1, h2, h3, h4, h5, h6, h7, h8, h9, h10⟩ := hk
    obtain ⟨i1, i2, i3, i4⟩ := ih
    rw [h4] at h7
    subst h7
    simp only [Option.toList_some, List.nodup_cons, List.nodup_append, List.singleton_append, List.mem_cons, List.mem_append, not_or] at i2
    refine ⟨fun k hk => i1 k (by simp [hk]), i2.2.2.2.1.1, i2.2.1.2.1, ?_⟩
    have := i1 _ (show _ ∈ _ by rw [Option.toList_some]; simp; right; left; rfl)
    simp [this]
theorem Way.cell (h : Way w ro p n t x own s u y o s' ab c d K) : w.cell? ⟨c, d, none⟩ = some (ptrV y) ∧ ∃ cs E, d < cs.size ∧ (∃ fz : Nat × Nat, (¬ (fz.1 ≤ d ∧ d < fz.2)) ∧ w.heap[c]? = some (.cells cs E fz)) ∧ cs[d]? = some (ptrV y) := by
  cases h with
  | here h => exact ⟨cell_in h.1 (i := 1) rfl, _, _, by simp, ⟨_, by simp, h.1⟩, rfl⟩
  | down h hk hu hs hf =>
    obtain ⟨a, ca, kv, xs, pre, post, h1, h2, h3, h4, h5, h6, h7, h8, h9, h10⟩ := hk
    have hl := h8.length
    rcases h3.2 with ⟨rfl, _⟩ | ⟨g, cap, cur, rfl, _, ⟨fz, hf1, hf2⟩, hcs, hcap, _, htk⟩
    · cases h4
    · cases h4
      have e := congrArg (fun l => l[d]?) htk
      simp only [List.getElem?_take_of_lt h6, Array.getElem?_toList] at e
      have e2 : cur[d]? = some (ptrV y) := by rw [e, h5]; simp [List.getD, show d < xs.length by omega]
      have hlt : d < cur.size := by omega
      exact ⟨cell_in hf2 e2, cur, _, hlt, ⟨fz, hf1 d hlt, hf2⟩, e2⟩
/-- What a change at the way's end makes of the tree. -/
theorem Way.back (h : Way w ro p n t x own s u y o s' ab c d K) : ∀ {w' : World} {ro' : Nat → Prop} {u' : RT} {y' : Nat} {o' : List Nat}, Chg (fun k => k ∈ o ∨ k = c) w w' → SetAt w w' c d (ptrV y') → NodeAt w' ro' u' y' o' →
    (∀ k, ro k → ro' k) → (∀ k, ro' k → ro k ∨ w.heap.size ≤ k) → o'.Nodup → (∀ k ∈ o', (k ∈ o ∨ w.heap.size ≤ k) ∧ ¬ ro' k ∧ k < w'.heap.size) →
    ∃ x' own', RootAt w' ro' p n (K u') x' own' ∧ ∀ k ∈ own', k ∈ own ∨ w.heap.size ≤ k := by
  induction h with
  | here h =>
    intro w' ro' u' y' o' hc hs hn hr hr' hd ho
    obtain ⟨h1, h2, h3, h4⟩ := h
    refine ⟨y', o', ⟨hs _ _ _ h1, hn, List.nodup_cons.2 ⟨fun hp => ?_, hd⟩, fun k hk => ?_⟩, fun k hk => (ho k hk).1⟩
    · rcases (ho _ hp).1 with hp | hp
      · exact (List.nodup_cons.1 h3).1 hp
      · have := (h4 p (by simp)).2; omega
    · rcases List.mem_cons.1 hk with rfl | hk
      · have := h4 k (by simp)
        have h5 := hc.size
        refine ⟨fun hk => ?_, by omega⟩
        rcases hr' k hk with hk | hk
        · exact this.1 hk
        · omega
      · exact (ho k hk).2
  | @down b v k y o s' ab c d K i z oi g u h hk hu hs hf ih =>
    intro w' ro' u' y' o' hc hset hn hr hr' hd ho
    have hroot := h.root
    have hsub := h.sub
    have hown : ∀ q ∈ own, ¬ ro q ∧ q < w.heap.size := fun q hq => hroot.2.2.2 q (by simp [hq])
    have hcell := h.cell
    obtain ⟨a, ca, kv, xs, pre, post, h1, h2, h3, h4, h5, h6, h7, h8, h9, h10⟩ := hk
    have hnd := hsub.2.1
    have hino := hsub.1
    have hcno := hsub.2.2.1
    have hcin := hsub.2.2.2
    rw [h7, h4] at hnd hcno
    simp only [Option.toList_some, List.nodup_cons, List.nodup_append, List.singleton_append, List.mem_cons, List.mem_append, not_or] at hnd hcno
    obtain ⟨⟨n1, n2, n3, n4⟩, ⟨n5, n6, n7⟩, n8, ⟨n9, n10, n11⟩, n12⟩ := hnd
    have hinO : ∀ q, (q = y ∨ q = g ∨ q ∈ pre ∨ q ∈ oi ∨ q ∈ post) → q ∈ o := fun q hq => by rw [h7, h4]; simpa using hq
    have hlt : ∀ q ∈ o, q < w.heap.size := fun q hq => (hown q (hino q hq)).2
    have hnr : ∀ q ∈ o, ¬ ro q := fun q hq => (hown q (hino q hq)).1
    have hl := h8.length
    -- the kid's node
    have hN : NodeAt w' ro' (.mk b v (k.set i u')) y (y :: ((vblock kv).toList ++ (pre ++ (o' ++ post)))) := by
      rw [NodeAt]
      refine ⟨a, ca, kv, xs.set i y', pre ++ (o' ++ post), hc.keep h1 (by rw [not_or]; exact ⟨n3, n1⟩), ?_, ?_, ?_, rfl⟩
      · have := h2.chg hc (fun q hq hS => ?_)
        · exact ⟨this.1, this.2.imp id fun ⟨q, e, r1, r2, r3⟩ => ⟨q, e, r1, hr q r2, r3⟩⟩
        · rcases hS with hS | rfl
          · exact hnr q (hinO q (by simp [hS])) hq
          · exact hnr q (hinO q (by simp)) hq
      · have := slot_set h3 h4 hset h6
        rw [List.map_set, List.length_set]
        exact this
      · refine h10 _ ro' w' u' y' o' hc (fun q hq hS => ?_) (fun q hq => ⟨hr q hq, fun hS => ?_⟩) hn
        · rcases hS with hS | rfl
          · rcases List.mem_append.1 hq with hq | hq
            · exact n12 q hq q (by simp [hS]) rfl
            · exact n11 q hS q hq rfl
          · rcases List.mem_append.1 hq with hq | hq
            · exact n5 hq
            · exact n7 hq
        · rcases hS with hS | rfl
          · exact hnr q (hinO q (by simp [hS])) hq
          · exact hnr q (hinO q (by simp)) hq
    have hgo : g ∈ o := hinO g (by simp)
    have hyo : y ∈ o := hinO y (by simp)
    have hnew : ∀ q ∈ o', q ∈ oi ∨ w.heap.size ≤ q := fun q hq => (ho q hq).1
    have hcg : c ≠ g := fun e => hcno.2.1 e
    have hset' : SetAt w w' c d (ptrV y) := by
      intro cs E fz hcs
      obtain ⟨_, cs', E', _, ⟨fz', _, hh⟩, hv⟩ := hcell
      rw [hcs] at hh
      cases hh
      have e : cs.setIfInBounds d (ptrV y) = cs := by
        apply Array.ext_getElem?
        intro j
        rw [Array.getElem?_setIfInBounds]
        split
        · next hj =>
          subst hj
          rw [hv]
        · rfl
      rw [e]
      refine hc.keep hcs ?_
      rintro (hS | rfl)
      · exact hcno.2.2.2.1 hS
      · exact hcg rfl
    have g1 : (y :: ((vblock kv).toList ++ (pre ++ (o' ++ post)))).Nodup := by
      rw [h4]
      simp only [Option.toList_some, List.nodup_cons, List.nodup_append, List.singleton_append, List.mem_cons, List.mem_append, not_or]
      have hfr : ∀ q ∈ o, q ∉ oi → q ∉ o' := fun q hq hno hq' => by
        rcases hnew q hq' with h | h
        · exact hno h
        · have := hlt q hq; omega
      refine ⟨⟨n1, n2, hfr y hyo n3, n4⟩, ⟨n5, hfr g hgo n6, n7⟩, n8, ⟨hd, n10, ?_⟩, ?_⟩
      · intro q hq q' hq' e
        subst e
        exact hfr q (hinO q (by simp [hq'])) (fun hh => n11 q hh q hq' rfl) hq
      · intro q hq q' hq' e
        subst e
        rcases hq' with hq' | hq'
        · exact hfr q (hinO q (by simp [hq])) (fun hh => n12 q hq q (by simp [hh]) rfl) hq'
        · exact n12 q hq q (by simp [hq']) rfl
    have g2 : ∀ q ∈ (y :: ((vblock kv).toList ++ (pre ++ (o' ++ post)))), (q ∈ o ∨ w.heap.size ≤ q) ∧ ¬ ro' q ∧ q < w'.heap.size := by
      intro q hq
      have old : q ∈ o → (q ∈ o ∨ w.heap.size ≤ q) ∧ ¬ ro' q ∧ q < w'.heap.size := fun hq => ⟨.inl hq, fun hh => by
        rcases hr' q hh with hh | hh
        · exact hnr q hq hh
        · have := hlt q hq; omega, Nat.lt_of_lt_of_le (hlt q hq) hc.size⟩
      rw [h4] at hq
      simp only [Option.toList_some, List.singleton_append, List.mem_cons, List.mem_append] at hq
      rcases hq with hq | hq | hq | hq | hq
      · exact old (hinO q (by simp [hq]))
      · exact old (hinO q (by simp [hq]))
      · exact old (hinO q (by simp [hq]))
      · refine ⟨?_, (ho q hq).2⟩
        rcases (ho q hq).1 with h | h
        · exact .inl (hinO q (by simp [h]))
        · exact .inr h
      · exact old (hinO q (by simp [hq]))
    exact ih (hc.mono fun q hq _ => by
        rcases hq with hq | rfl
        · exact .inl (hinO q (by simp [hq]))
        · exact .inl hgo) hset' hN hr hr' g1 g2
end
end Go.Proofs.Ytbjpfnafhhbmaaa.Rad
