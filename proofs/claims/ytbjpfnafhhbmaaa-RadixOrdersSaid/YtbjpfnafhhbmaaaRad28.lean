/- radix: what a deletion leaves. -/
import Derived.Test.YtbjpfnafhhbmaaaRad27
namespace Go.Proofs.Ytbjpfnafhhbmaaa.Rad
open Go.Proofs.Ytbjpfnafhhbmaaa
set_option linter.unusedVariables false
set_option linter.unusedSimpArgs false
open Go.RowKit RT
theorem map_eraseIdx {α β : Type} (f : α → β) : ∀ (l : List α) (i : Nat), (l.map f).eraseIdx i = (l.eraseIdx i).map f
  | [], _ => by simp
  | x :: l, 0 => rfl
  | x :: l, i + 1 => by simp [map_eraseIdx f l i]
theorem KidAt.chg {w w' : World} {ro : Nat → Prop} {b : List UInt8} {v : VT} {k : List RT} {y : Nat} {o : List Nat} {i z : Nat} {oi : List Nat} {g p : Nat} (h : KidAt w ro b v k y o i z oi g) (hc : Chg (fun j => j = p) w w') (hr : ¬ ro p) (ho : p ∉ o) : KidAt w' ro b v k y o i z oi g := by
  obtain ⟨a, ca, kv, xs, pre, post, h1, h2, h3, h4, h5, h6, h7, h8, h9, h10⟩ := h
  have hro : ∀ j, ro j → ¬ j = p := fun j hj e => hr (e ▸ hj)
  rw [h7, List.mem_cons, List.mem_append, vb_list] at ho
  simp only [not_or] at ho
  have hm : ∀ j ∈ pre ++ (oi ++ post), ¬ j = p := fun j hj e => ho.2.2 (e ▸ hj)
  refine ⟨a, ca, kv, xs, pre, post, hc.keep h1 (fun e => ho.1 e.symm), h2.chg hc hro, h3.chg hc fun g hg e => ho.2.1 (e ▸ hg), h4, h5, h6, h7, NodesAt.chg hc hro h8 hm, fun hi => NodeAt.chg hc hro (h9 hi) fun j hj => hm j (by simp [hj]), ?_⟩
  intro S ro' w'' u' y' oi' hc' hS hr' hn
  refine h10 (fun j => S j ∨ j = p) ro' w'' u' y' oi' ((hc.mono fun j hj _ => .inr hj).trans hc' fun j hj _ => .inl hj) (fun j hj hj' => ?_) (fun j hj => ⟨(hr' j hj).1, fun hj' => ?_⟩) hn
  · rcases hj' with hj' | rfl
    · exact hS j hj hj'
    · exact hm j (by rcases List.mem_append.1 hj with h | h <;> simp [h]) rfl
  · rcases hj' with hj' | rfl
    · exact (hr' j hj).2 hj'
    · exact hr hj
/-- The tree's count has turned. -/
theorem Way.count {w w' : World} {ro : Nat → Prop} {p n n' : Nat} {t : RT} {x : Nat} {own : List Nat} {s : List UInt8} {u : RT} {y : Nat} {o : List Nat} {s' : List UInt8} {ab : List Nat} {c d : Nat} {K : RT → RT}
    (h : Way w ro p n t x own s u y o s' ab c d K) (hr : RootAt w' ro p n' t x own) (hc : Chg (fun j => j = p) w w') : Way w' ro p n' t x own s u y o s' ab c d K := by
  induction h with
  | here _ => exact .here hr
  | down h hk hu hs hf ih =>
    refine .down ih (hk.chg hc (hr.2.2.2 p (by simp)).1 fun hp => ?_) hu hs hf
    exact (List.nodup_cons.1 hr.2.2.1).1 (h.sub.1 p hp)
theorem Way.done2 {w : World} {ro ro' : Nat → Prop} {p n : Nat} {t : RT} {x : Nat} {own : List Nat} {s : List UInt8} {u : RT} {y : Nat} {o : List Nat} {s' : List UInt8} {ab : List Nat} {c d : Nat} {K : RT → RT}
    (h : Way w ro p n t x own s u y o s' ab c d K) {w0 w' : World} {G : Nat → Prop} {u' : RT} {y' : Nat} {o' : List Nat} (hGp : G p) (hGo : ∀ k ∈ own, G k) (hGr : ∀ k, ro' k → (G k ∨ w0.heap.size ≤ k) ∧ k < w'.heap.size) (hGl : ∀ k, G k → k < w0.heap.size) (h0 : Chg G w0 w)
    (hr : ∀ k, ro k → ro' k) (hr' : ∀ k, ro' k → ro k ∨ w.heap.size ≤ k)
    (hc : Chg (fun k => k ∈ o ∨ k = c) w w') (hs : SetAt w w' c d (ptrV y')) (hn : NodeAt w' ro' u' y' o') (hd : o'.Nodup) (ho : ∀ k ∈ o', (k ∈ o ∨ w.heap.size ≤ k) ∧ ¬ ro' k ∧ k < w'.heap.size) (hw : WF 16 (K u')) :
    ∃ G', TreeF w' p G' (some (K u')) n ∧ Fresh w0 G G' ∧ Chg G w0 w' := by
  have hsub := h.sub
  have hroot := h.root
  obtain ⟨x', own', h1, h2⟩ := h.back hc hs hn hr hr' hd ho
  have hsz := h0.size
  refine ⟨fun k => (G k ∨ w0.heap.size ≤ k) ∧ k < w'.heap.size, ⟨fun k hk => hk.2, hw, ro', x', own', h1, ?_⟩, fun k hk => hk.1, h0.trans hc ?_⟩
  · rintro k (rfl | hk | hk)
    · exact ⟨.inl hGp, (h1.2.2.2 k (by simp)).2⟩
    · refine ⟨?_, (h1.2.2.2 k (by simp [hk])).2⟩
      rcases h2 k hk with hk | hk
      · exact .inl (hGo k hk)
      · exact .inr (by omega)
    · exact hGr k hk
  · rintro k (hk | rfl) _
    · exact hGo k (hsub.1 k hk)
    · rcases List.mem_cons.1 hsub.2.2.2 with rfl | hk
      · exact hGp
      · exact hGo k hk
theorem NodesAt.erase {w : World} {ro : Nat → Prop} : ∀ {l : List RT} {xs own : List Nat}, NodesAt w ro l xs own → ∀ i, i < l.length → ∃ pre oi post, own = pre ++ (oi ++ post) ∧ NodesAt w ro (l.eraseIdx i) (xs.eraseIdx i) (pre ++ post)
  | [], xs, own, h, i, hi => by simp at hi
  | t :: l, xs, own, h, i, hi => by
    rw [NodesAt] at h
    obtain ⟨x, ys, o1, o2, rfl, h2, h3, rfl⟩ := h
    cases i with
    | zero => exact ⟨[], o1, o2, rfl, h3⟩
    | succ i =>
      obtain ⟨pre, oi, post, rfl, h4⟩ := NodesAt.erase h3 i (by simpa using hi)
      refine ⟨o1 ++ pre, oi, post, by simp, ?_⟩
      simp only [List.eraseIdx_cons_succ]
      rw [NodesAt]
      exact ⟨x, _, o1, pre ++ post, rfl, h2, h4, by simp⟩
section
variable {w0 w w7 : World} {ro : Nat → Prop} {p n : Nat} {t : RT} {x : Nat} {own : List Nat} {s : List UInt8} {b : List UInt8} {vk : VT} {k : List RT} {y : Nat} {o : List Nat} {s2 : List UInt8} {ab : List Nat} {c d : Nat} {K : RT → RT}
    {a : Option Addr} {ca : Nat} {kv : Value} {xs rows : List Nat} {G : Nat → Prop} {i : Nat} {kv' : Value}
/-- Where three and more were below. -/
theorem del_at (hway : Way w ro p n t x own s (.mk b vk k) y o (b ++ s2) ab c d K) (hp : Parts w ro b vk k y a ca kv xs rows) (ho : o = y :: ((vblock kv).toList ++ rows)) (hi : i < k.length)
    (h7 : w7.heap[y]? = some (.cells #[.slice a b.length ca, kv', vC vk] 45 (0, 0))) (hs7 : SliceIs w7 0 38 kv' (k.length - 1) ((xs.map ptrV).eraseIdx i))
    (hkv' : vblock kv' = vblock kv ∨ ∃ g, vblock kv' = some g ∧ w.heap.size ≤ g) (hc : Chg (fun j => j = y ∨ vblock kv = some j) w w7)
    (hGp : G p) (hGo : ∀ k ∈ own, G k) (hGr : ∀ k, ro k → (G k ∨ w0.heap.size ≤ k) ∧ k < w.heap.size) (hGl : ∀ k, G k → k < w0.heap.size) (h0 : Chg G w0 w) (hw : WF 16 (K (.mk b vk (k.eraseIdx i)))) :
    ∃ G', TreeF w7 p G' (some (K (.mk b vk (k.eraseIdx i)))) n ∧ Fresh w0 G G' ∧ Chg G w0 w7 := by
  have hsub := hway.sub
  have hroot := hway.root
  have hlt : ∀ q ∈ o, q < w.heap.size ∧ ¬ ro q := fun q hq => by have := hroot.2.2.2 q (by simp [hsub.1 q hq]); exact ⟨this.2, this.1⟩
  have hyo : y ∈ o := by rw [ho]; simp
  have hkvo : ∀ g, vblock kv = some g → g ∈ o := fun g hg => by rw [ho]; simp [vb_list.2 hg]
  have hS : ∀ q, (q = y ∨ vblock kv = some q) → q ∈ o := fun q hq => hq.elim (fun e => e ▸ hyo) (hkvo q)
  have hro : ∀ q, ro q → ¬ (q = y ∨ vblock kv = some q) := fun q hq hq' => (hlt q (hS q hq')).2 hq
  have hnd := hsub.2.1
  rw [ho, List.nodup_cons, List.nodup_append] at hnd
  obtain ⟨n1, n2, n3, n4⟩ := hnd
  simp only [List.mem_append, not_or] at n1
  have hrows : NodesAt w7 ro k xs rows := NodesAt.chg hc hro hp.2.2.2 fun q hq hq' => by
    rcases hq' with rfl | hq'
    · exact n1.2 hq
    · exact n4 q (vb_list.2 hq') q hq rfl
  obtain ⟨pre, oi, post, hpp, her⟩ := NodesAt.erase hrows i hi
  have hnode : NodeAt w7 ro (.mk b vk (k.eraseIdx i)) y (y :: ((vblock kv').toList ++ (pre ++ post))) := by
    rw [NodeAt]
    refine ⟨a, ca, kv', _, _, h7, hp.2.1.chg hc hro, ?_, her, rfl⟩
    rw [List.length_eraseIdx, if_pos hi, ← map_eraseIdx]
    exact hs7
  have hrin : ∀ q ∈ rows, q ∈ o := fun q hq => by rw [ho]; simp [hq]
  have hpr : ∀ q, q ∈ pre ∨ q ∈ post → q ∈ rows := fun q hq => by rw [hpp]; simp only [List.mem_append]; exact hq.imp id .inr
  rw [hpp, List.nodup_append, List.nodup_append] at n3
  have gd1 : (y :: ((vblock kv').toList ++ (pre ++ post))).Nodup := by
    rw [List.nodup_cons, List.nodup_append, List.nodup_append]
    refine ⟨?_, by cases vblock kv' <;> simp, ⟨n3.1, n3.2.1.2.1, fun q hq q' hq' => n3.2.2 q hq q' (by simp [hq'])⟩, ?_⟩
    · simp only [List.mem_append, vb_list, not_or]
      refine ⟨fun h => ?_, fun h => n1.2 (hpr y (.inl h)), fun h => n1.2 (hpr y (.inr h))⟩
      rcases hkv' with h' | ⟨g, h1, h2⟩
      · rw [h'] at h; exact n1.1 (vb_list.2 h)
      · rw [h1] at h; cases h; have := (hlt y hyo).1; omega
    · intro q hq q' hq' e
      subst e
      rw [vb_list] at hq
      have hq2 := hpr q (by simpa using hq')
      rcases hkv' with h' | ⟨g, h1, h2⟩
      · rw [h'] at hq; exact n4 q (vb_list.2 hq) q hq2 rfl
      · rw [h1] at hq; cases hq; have := (hlt q (hrin q hq2)).1; omega
  have gd2 : ∀ q ∈ (y :: ((vblock kv').toList ++ (pre ++ post))), (q ∈ o ∨ w.heap.size ≤ q) ∧ q < w7.heap.size := by
    intro q hq
    have old : ∀ q ∈ o, (q ∈ o ∨ w.heap.size ≤ q) ∧ q < w7.heap.size := fun q hq => ⟨.inl hq, Nat.lt_of_lt_of_le (hlt q hq).1 hc.size⟩
    simp only [List.mem_cons, List.mem_append, vb_list] at hq
    rcases hq with rfl | hq | hq | hq
    · exact old _ hyo
    · rcases hkv' with h' | ⟨g, h1, h2⟩
      · rw [h'] at hq; exact old q (hkvo q hq)
      · rw [h1] at hq; cases hq
        exact ⟨.inr h2, (hs7.block_lt h1).2⟩
    · exact old q (hrin q (hpr q (.inl hq)))
    · exact old q (hrin q (hpr q (.inr hq)))
  exact hway.done (w0 := w0) (G := G) (y' := y) hGp hGo hGr hGl h0 (hc.mono fun q hq _ => .inl (hS q hq)) (SetAt.same hc (by rw [not_or]; exact ⟨fun e => hsub.2.2.1 (e ▸ hyo), fun e => hsub.2.2.1 (hkvo c e)⟩) hway.cell.1) hnode gd1 gd2 hw
/-- Where two were below: the other one joins the node. -/
theorem del_join {b2 : List UInt8} {v2 : VT} {k2 : List RT} {z2 : Nat} {a2 : Option Addr} {c2 : Nat} {kv2 : Value} {xs2 rows2 : List Nat} {a9 : Option Addr} {c9 g9 : Nat}
    (hway : Way w ro p n t x own s (.mk b vk k) y o (b ++ s2) ab c d K) (hp : Parts w ro b vk k y a ca kv xs rows) (ho : o = y :: ((vblock kv).toList ++ rows))
    (hp2 : Parts w ro b2 v2 k2 z2 a2 c2 kv2 xs2 rows2) (hin : ∀ q ∈ (z2 :: ((vblock kv2).toList ++ rows2)), q ∈ rows) (hnd2 : (z2 :: ((vblock kv2).toList ++ rows2)).Nodup)
    (h7 : w7.heap[y]? = some (.cells #[.slice a9 (b ++ b2).length c9, kv2, vC v2] 45 (0, 0))) (hb9 : BytesRo w7 (fun j => j = g9) a9 (b ++ b2) c9) (hg9 : w.heap.size ≤ g9) (hg9' : g9 < w7.heap.size)
    (hc : Chg (fun j => j = y ∨ vblock kv = some j) w w7)
    (hGp : G p) (hGo : ∀ k ∈ own, G k) (hGr : ∀ k, ro k → (G k ∨ w0.heap.size ≤ k) ∧ k < w.heap.size) (hGl : ∀ k, G k → k < w0.heap.size) (h0 : Chg G w0 w) (hw : WF 16 (K (.mk (b ++ b2) v2 k2))) :
    ∃ G', TreeF w7 p G' (some (K (.mk (b ++ b2) v2 k2))) n ∧ Fresh w0 G G' ∧ Chg G w0 w7 := by
  have hsub := hway.sub
  have hroot := hway.root
  have hlt : ∀ q ∈ o, q < w.heap.size ∧ ¬ ro q := fun q hq => by have := hroot.2.2.2 q (by simp [hsub.1 q hq]); exact ⟨this.2, this.1⟩
  have hyo : y ∈ o := by rw [ho]; simp
  have hkvo : ∀ g, vblock kv = some g → g ∈ o := fun g hg => by rw [ho]; simp [vb_list.2 hg]
  have hS : ∀ q, (q = y ∨ vblock kv = some q) → q ∈ o := fun q hq => hq.elim (fun e => e ▸ hyo) (hkvo q)
  have hro : ∀ q, ro q → ¬ (q = y ∨ vblock kv = some q) := fun q hq hq' => (hlt q (hS q hq')).2 hq
  have hnd := hsub.2.1
  rw [ho, List.nodup_cons, List.nodup_append] at hnd
  obtain ⟨n1, n2, n3, n4⟩ := hnd
  simp only [List.mem_append, not_or] at n1
  have hrS : ∀ q ∈ rows, ¬ (q = y ∨ vblock kv = some q) := fun q hq hq' => by
    rcases hq' with rfl | hq'
    · exact n1.2 hq
    · exact n4 q (vb_list.2 hq') q hq rfl
  have hrin : ∀ q ∈ rows, q ∈ o := fun q hq => by rw [ho]; simp [hq]
  have h0' := h0.size
  have hsz := hc.size
  have hmem : ∀ q, vblock kv2 = some q ∨ q ∈ rows2 → q ∈ rows := fun q hq => hin q (by simp only [List.mem_cons, List.mem_append, vb_list]; exact .inr hq)
  have hnode : NodeAt w7 (fun j => ro j ∨ j = g9) (.mk (b ++ b2) v2 k2) y (y :: ((vblock kv2).toList ++ rows2)) := by
    rw [NodeAt]
    refine ⟨a9, c9, kv2, xs2, rows2, h7, ⟨hb9.1, hb9.2.imp id fun ⟨q, e, r1, r2, r3⟩ => ⟨q, e, r1, .inr r2, r3⟩⟩, hp2.2.2.1.chg hc fun g hg => hrS g (hmem g (.inl hg)), (NodesAt.chg hc hro hp2.2.2.2 fun q hq => hrS q (hmem q (.inr hq))).ro fun q hq => .inl hq, rfl⟩
  rw [List.nodup_cons] at hnd2
  have gd1 : (y :: ((vblock kv2).toList ++ rows2)).Nodup := List.nodup_cons.2 ⟨fun hq => n1.2 (hmem y (by simpa only [List.mem_append, vb_list] using hq)), hnd2.2⟩
  have gd2 : ∀ q ∈ (y :: ((vblock kv2).toList ++ rows2)), (q ∈ o ∨ w.heap.size ≤ q) ∧ ¬ (ro q ∨ q = g9) ∧ q < w7.heap.size := fun q hq => by
    have hqo : q ∈ o := by
      simp only [List.mem_cons, List.mem_append, vb_list] at hq
      rcases hq with rfl | hq
      · exact hyo
      · exact hrin q (hmem q hq)
    have := hlt q hqo
    exact ⟨.inl hqo, by rw [not_or]; exact ⟨this.2, by omega⟩, by omega⟩
  refine hway.done2 (w0 := w0) (G := G) (y' := y) (ro' := fun j => ro j ∨ j = g9) hGp hGo (fun q hq => ?_) hGl h0 (fun q hq => .inl hq) (fun q hq => ?_) (hc.mono fun q hq _ => .inl (hS q hq)) (SetAt.same hc (by rw [not_or]; exact ⟨fun e => hsub.2.2.1 (e ▸ hyo), fun e => hsub.2.2.1 (hkvo c e)⟩) hway.cell.1) hnode gd1 gd2 hw
  · rcases hq with hq | rfl
    · have := hGr q hq; exact ⟨this.1, by omega⟩
    · exact ⟨.inr (by omega), hg9'⟩
  · rcases hq with hq | rfl
    · exact .inl hq
    · exact .inr hg9
end
end Go.Proofs.Ytbjpfnafhhbmaaa.Rad
