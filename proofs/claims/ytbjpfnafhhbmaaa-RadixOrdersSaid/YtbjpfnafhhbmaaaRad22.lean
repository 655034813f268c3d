/- radix: what a change leaves, in one word. -/
import Derived.Test.YtbjpfnafhhbmaaaRad21
namespace Go.Proofs.Ytbjpfnafhhbmaaa.Rad
open Go.Proofs.Ytbjpfnafhhbmaaa
set_option linter.unusedVariables false
set_option linter.unusedSimpArgs false
open Go.RowKit RT
theorem free_at {w : World} {c d : Nat} {cs : Array Value} {E : TypeId} {fz : Nat × Nat} (h : w.heap[c]? = some (.cells cs E fz)) (hf : ¬ (fz.1 ≤ d ∧ d < fz.2)) : w.frozen? ⟨c, d, none⟩ = false := by
  obtain ⟨lo, hi⟩ := fz
  simp only [World.frozen?, h, Bool.and_eq_false_iff, decide_eq_false_iff_not]
  by_cases h1 : lo ≤ d
  · exact .inr fun h2 => hf ⟨h1, h2⟩
  · exact .inl h1
/-- A tree that a change has left: its blocks are old ones or new ones. -/
theorem Way.done {w : World} {ro : Nat → Prop} {p n : Nat} {t : RT} {x : Nat} {own : List Nat} {s : List UInt8} {u : RT} {y : Nat} {o : List Nat} {s' : List UInt8} {ab : List Nat} {c d : Nat} {K : RT → RT}
    (h : Way w ro p n t x own s u y o s' ab c d K) {w0 w' : World} {G : Nat → Prop} {u' : RT} {y' : Nat} {o' : List Nat} (hGp : G p) (hGo : ∀ k ∈ own, G k) (hGr : ∀ k, ro k → (G k ∨ w0.heap.size ≤ k) ∧ k < w.heap.size) (hGl : ∀ k, G k → k < w0.heap.size) (h0 : Chg G w0 w)
    (hc : Chg (fun k => k ∈ o ∨ k = c) w w') (hs : SetAt w w' c d (ptrV y')) (hn : NodeAt w' ro u' y' o') (hd : o'.Nodup) (ho : ∀ k ∈ o', (k ∈ o ∨ w.heap.size ≤ k) ∧ k < w'.heap.size) (hw : WF 16 (K u')) :
    ∃ G', TreeF w' p G' (some (K u')) n ∧ Fresh w0 G G' ∧ Chg G w0 w' := by
  have hsub := h.sub
  have hroot := h.root
  obtain ⟨x', own', h1, h2⟩ := h.back hc hs hn (fun _ => id) (fun _ => .inl) hd fun k hk => ⟨(ho k hk).1, fun hr => by
    rcases (ho k hk).1 with hk' | hk'
    · exact (hroot.2.2.2 k (by simp [hsub.1 k hk'])).1 hr
    · have := (hGr k hr).2; omega, (ho k hk).2⟩
  have hsz := h0.size
  refine ⟨fun k => (G k ∨ w0.heap.size ≤ k) ∧ k < w'.heap.size, ⟨fun k hk => hk.2, hw, ro, x', own', h1, ?_⟩, fun k hk => hk.1, h0.trans hc ?_⟩
  · rintro k (rfl | hk | hk)
    · exact ⟨.inl hGp, (h1.2.2.2 k (by simp)).2⟩
    · refine ⟨?_, (h1.2.2.2 k (by simp [hk])).2⟩
      rcases h2 k hk with hk | hk
      · exact .inl (hGo k hk)
      · exact .inr (by omega)
    · exact ⟨(hGr k hk).1, Nat.lt_of_lt_of_le (hGr k hk).2 hc.size⟩
  · rintro k (hk | rfl) _
    · exact hGo k (hsub.1 k hk)
    · rcases List.mem_cons.1 hsub.2.2.2 with rfl | hk
      · exact hGp
      · exact hGo k hk
theorem SetAt.same {w w' : World} {c d : Nat} {S : Nat → Prop} {v : Value} (hc : Chg S w w') (hS : ¬ S c) (hv : w.cell? ⟨c, d, none⟩ = some v) : SetAt w w' c d v := by
  intro cs E fz hcs
  have hv' : cs[d]? = some v := by simpa [World.cell?, hcs] using hv
  have e : cs.setIfInBounds d v = cs := by
    apply Array.ext_getElem?
    intro j
    rw [Array.getElem?_setIfInBounds]
    split
    · next hj =>
      subst hj
      rw [hv']
      split
      · rfl
      · next hj2 => rw [Array.getElem?_eq_none (by omega)] at hv'; cases hv'
    · rfl
  rw [e]
  exact hc.keep hcs hS
/-- Nodes below one, and one more among them. -/
theorem NodesAt.ins {w : World} {ro : Nat → Prop} {u : RT} {z : Nat} {oz : List Nat} (hu : NodeAt w ro u z oz) : ∀ {l : List RT} {xs own : List Nat}, NodesAt w ro l xs own → ∀ r, ∃ pre post, own = pre ++ post ∧ NodesAt w ro (l.take r ++ u :: l.drop r) (xs.take r ++ z :: xs.drop r) (pre ++ (oz ++ post))
  | l, xs, own, h, 0 => by
    refine ⟨[], own, rfl, ?_⟩
    simp only [List.take_zero, List.nil_append, List.drop_zero]
    rw [NodesAt]
    exact ⟨z, xs, oz, own, rfl, hu, h, rfl⟩
  | [], xs, own, h, r + 1 => by
    rw [NodesAt] at h
    obtain ⟨rfl, rfl⟩ := h
    refine ⟨[], [], rfl, ?_⟩
    simp only [List.take_nil, List.drop_nil, List.nil_append, List.append_nil]
    rw [NodesAt]
    exact ⟨z, [], oz, [], rfl, hu, by rw [NodesAt]; exact ⟨rfl, rfl⟩, by simp⟩
  | t :: l, xs, own, h, r + 1 => by
    rw [NodesAt] at h
    obtain ⟨x, ys, o1, o2, rfl, h2, h3, rfl⟩ := h
    obtain ⟨pre, post, rfl, h4⟩ := NodesAt.ins hu h3 r
    refine ⟨o1 ++ pre, post, by simp, ?_⟩
    simp only [List.take_succ_cons, List.drop_succ_cons, List.cons_append]
    rw [NodesAt]
    exact ⟨x, _, o1, _, rfl, h2, h4, by simp⟩
theorem RT.putS_ins {s : List UInt8} (v : Value) (x : VT) : ∀ {l : List RT} {r : Nat}, PlaceB (l.map RT.first) (s.getD 0 0) r → (∀ u ∈ l, u.first ≠ s.getD 0 0) → putS l s x = l.take r ++ RT.mk s x [] :: l.drop r
  | [], r, h, _ => by
    rw [putS]; simp
  | t :: l, 0, h, hn => by
    have h1 := h.2.2 0 (Nat.le_refl _) (by simp)
    simp only [List.map_cons, List.getD_cons_zero] at h1
    have h2 := hn t (by simp)
    rw [putS, if_neg h2, if_pos (lt_of_le_ne h1 fun e => h2 e.symm)]
    rfl
  | t :: l, r + 1, h, hn => by
    have h1 := h.2.1 0 (by omega)
    simp only [List.map_cons, List.getD_cons_zero] at h1
    have ih := RT.putS_ins v x (l := l) (r := r) ⟨by have := h.1; simpa using this, fun i hi => by have := h.2.1 (i + 1) (by omega); simpa using this, fun i h3 h4 => by have := h.2.2 (i + 1) (by omega) (by simpa using h4); simpa using this⟩ fun u hu => hn u (by simp [hu])
    rw [putS, if_neg (hn t (by simp)), if_neg (RT.not_lt_of_lt h1), ih]
    rfl
theorem RT.addK_one {t u : RT} {r : Nat} (h : PlaceB ([t].map RT.first) u.first r) (hn : t.first ≠ u.first) : addK [t] u = [t].take r ++ u :: [t].drop r := by
  unfold addK
  have hr : r ≤ 1 := by have := h.1; simpa using this
  rcases (show r = 0 ∨ r = 1 by omega) with rfl | rfl
  · have := h.2.2 0 (by omega) (by simp)
    simp only [List.map_cons, List.getD_cons_zero] at this
    rw [if_pos this]; rfl
  · have := h.2.1 0 (by omega)
    simp only [List.map_cons, List.getD_cons_zero] at this
    rw [if_neg (fun h' => by rw [UInt8.le_iff_toNat_le] at h'; rw [UInt8.lt_iff_toNat_lt] at this; omega)]
    rfl
theorem RootAt.more {w : World} {ro ro' : Nat → Prop} {p n : Nat} {t : RT} {x : Nat} {own : List Nat} (h : RootAt w ro p n t x own) (hr : ∀ k, ro k → ro' k) (hn : ∀ k ∈ p :: own, ¬ ro' k) : RootAt w ro' p n t x own :=
  ⟨h.1, h.2.1.ro hr, h.2.2.1, fun k hk => ⟨hn k hk, (h.2.2.2 k hk).2⟩⟩
theorem Parts.below {w w' : World} {ro : Nat → Prop} {b : List UInt8} {v : VT} {k : List RT} {x : Nat} {a : Option Addr} {ca : Nat} {kv : Value} {xs rows : List Nat} (h : Parts w ro b v k x a ca kv xs rows) (hb : Below w.heap.size w w') : Parts w' ro b v k x a ca kv xs rows := by
  have hc := Chg.of_below (fun _ => False) hb
  exact ⟨hc.keep h.1 id, h.2.1.chg hc fun _ _ => id, h.2.2.1.chg hc fun _ _ => id, NodesAt.chg hc (fun _ _ => id) h.2.2.2 fun _ _ => id⟩
end Go.Proofs.Ytbjpfnafhhbmaaa.Rad
