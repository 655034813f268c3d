/- radix: whole trees in plain Lean. -/
import Derived.Test.YtbjpfnafhhbmaaaRad35
namespace Go.Proofs.Ytbjpfnafhhbmaaa.Rad
open Go.Proofs.Ytbjpfnafhhbmaaa
set_option linter.unusedVariables false
set_option linter.unusedSimpArgs false
open Go.RowKit RT
def WFO (T : Option RT) : Prop := ∀ t, T = some t → WF 16 t
theorem TreeF.wf {w : World} {p : Nat} {G : Nat → Prop} {T : Option RT} {n : Nat} (h : TreeF w p G T n) : WFO T := fun t e => by subst e; exact h.2.1
theorem WFO.putO {T : Option RT} (h : WFO T) {s : List UInt8} (hs : s.length = 16) (v : VT) : WFO (putO T s v) := fun t e => by
  cases T with
  | none => cases e; rw [WF]; exact ⟨by omega, .inl ⟨rfl, hs⟩⟩
  | some t0 => cases e; exact WF_put v (h t0 rfl) hs
theorem look_putO {T : Option RT} (h : WFO T) {s s' : List UInt8} (hs : s.length = 16) (hs' : s'.length = 16) (v : VT) : lookO (putO T s v) s' = if s' = s then some v else lookO T s' := by
  cases T with
  | none =>
    show RT.look (.mk s v []) s' = _
    rw [look_leaf s s' v (by omega)]
    rfl
  | some t => exact look_put v (h t rfl) hs hs'
theorem WFO.delO {T : Option RT} (h : WFO T) {s : List UInt8} (hs : s.length = 16) (hl : lookO T s ≠ none) : WFO (delO T s) := fun t e => by
  cases T with
  | none => exact absurd rfl hl
  | some t0 =>
    have e : (if t0.kids.isEmpty then none else some (RT.del t0 s)) = some t := e
    split at e
    · cases e
    · next hk =>
      cases e
      refine WF_del (h t0 rfl) (fun e => hk (by rw [e]; rfl)) hs ?_
      cases hh : RT.look t0 s with
      | none => exact absurd hh hl
      | some _ => rfl
theorem leaf_key {t : RT} (h : WF 16 t) (hk : t.kids.isEmpty = true) {s : List UInt8} (hs : s.length = 16) {v : VT} (hl : RT.look t s = some v) : t = .mk s v [] := by
  obtain ⟨b, w, k⟩ := t
  obtain rfl : k = [] := by simpa [RT.kids] using hk
  have hb : b.length = 16 := by
    rw [WF] at h
    rcases h.2 with h | h
    · exact h.2
    · have := h.1; simp at this
  rw [look_leaf b s w (by omega)] at hl
  split at hl
  · next e => cases hl; rw [e]
  · cases hl
theorem look_delO {T : Option RT} (h : WFO T) {s s' : List UInt8} (hs : s.length = 16) (hs' : s'.length = 16) (hl : lookO T s ≠ none) : lookO (delO T s) s' = if s' = s then none else lookO T s' := by
  cases T with
  | none => exact absurd rfl hl
  | some t =>
    cases hh : RT.look t s with
    | none => exact absurd hh hl
    | some v =>
      show ((if t.kids.isEmpty then none else some (RT.del t s)).bind fun t => RT.look t s') = if s' = s then none else RT.look t s'
      split
      · next hk =>
        have := leaf_key (h t rfl) hk hs hh
        rw [this, look_leaf s s' v (by omega)]
        split <;> rfl
      · next hk =>
        exact look_del (h t rfl) (fun e => hk (by rw [e]; rfl)) hs hs' (by rw [hh]; rfl)
theorem canonO {T1 T2 : Option RT} (h1 : WFO T1) (h2 : WFO T2) (h : ∀ s, s.length = 16 → lookO T1 s = lookO T2 s) : T1 = T2 := by
  have key : ∀ (t : RT), WF 16 t → ∃ s, s.length = 16 ∧ RT.look t s ≠ none := fun t ht => by
    obtain ⟨s, e1, e2, _⟩ := some_key ht
    exact ⟨s, e1, fun e => by rw [e] at e2; cases e2⟩
  cases T1 with
  | none =>
    cases T2 with
    | none => rfl
    | some t =>
      obtain ⟨s, e1, e2⟩ := key t (h2 t rfl)
      exact absurd (h s e1).symm e2
  | some t1 =>
    cases T2 with
    | none =>
      obtain ⟨s, e1, e2⟩ := key t1 (h1 t1 rfl)
      exact absurd (h s e1) e2
    | some t2 => rw [canon (h1 t1 rfl) (h2 t2 rfl) h]
theorem mem_itemsO {T : Option RT} (h : WFO T) (s : List UInt8) (x : VT) : (s, x) ∈ itemsO T ↔ s.length = 16 ∧ lookO T s = some x := by
  cases T with
  | none => simp [itemsO, lookO]
  | some t => exact mem_items s x (h t rfl)
theorem itemsO_rise {T : Option RT} (h : WFO T) : (itemsO T).Pairwise fun p q => p.1 < q.1 := by
  cases T with
  | none => exact List.Pairwise.nil
  | some t => exact items_rise (h t rfl)
theorem itemsO_nodup {T : Option RT} (h : WFO T) : ((itemsO T).map Prod.fst).Nodup := by
  rw [List.nodup_iff_pairwise_ne, List.pairwise_map]
  refine (itemsO_rise h).imp fun {p q} hpq e => ?_
  rw [e] at hpq
  exact List.lt_irrefl _ hpq
theorem sub_len {α : Type} [DecidableEq α] : ∀ {l m : List α}, l.Nodup → (∀ x ∈ l, x ∈ m) → l.length ≤ m.length
  | [], m, _, _ => by simp
  | a :: l, m, hd, hs => by
    rw [List.nodup_cons] at hd
    have ha := hs a (by simp)
    have := sub_len (m := m.erase a) hd.2 fun x hx => by
      have hne : x ≠ a := fun e => hd.1 (e ▸ hx)
      exact (List.mem_erase_of_ne hne).2 (hs x (by simp [hx]))
    rw [List.length_erase_of_mem ha] at this
    have h0 : 0 < m.length := List.length_pos_of_mem ha
    simp only [List.length_cons]; omega
theorem mem_keys {T : Option RT} (h : WFO T) (s : List UInt8) : s ∈ (itemsO T).map Prod.fst ↔ s.length = 16 ∧ lookO T s ≠ none := by
  constructor
  · intro hm
    obtain ⟨⟨s', x⟩, hp, rfl⟩ := List.mem_map.1 hm
    have := (mem_itemsO h s' x).1 hp
    exact ⟨this.1, by rw [this.2]; simp⟩
  · rintro ⟨h1, h2⟩
    cases hl : lookO T s with
    | none => exact absurd hl h2
    | some x => exact List.mem_map.2 ⟨(s, x), (mem_itemsO h s x).2 ⟨h1, hl⟩, rfl⟩
theorem len_putO {T : Option RT} (h : WFO T) {s : List UInt8} (hs : s.length = 16) (v : VT) : (itemsO (putO T s v)).length = if (lookO T s).isNone then (itemsO T).length + 1 else (itemsO T).length := by
  have h' := h.putO hs v
  have e1 : (itemsO (putO T s v)).length = ((itemsO (putO T s v)).map Prod.fst).length := by simp
  have e2 : (itemsO T).length = ((itemsO T).map Prod.fst).length := by simp
  have hm : ∀ x, x ∈ (itemsO (putO T s v)).map Prod.fst ↔ x = s ∨ x ∈ (itemsO T).map Prod.fst := fun x => by
    rw [mem_keys h', mem_keys h]
    constructor
    · rintro ⟨h1, h2⟩
      rw [look_putO h hs h1] at h2
      by_cases e : x = s
      · exact .inl e
      · rw [if_neg e] at h2; exact .inr ⟨h1, h2⟩
    · rintro (rfl | ⟨h1, h2⟩)
      · exact ⟨hs, by rw [look_putO h hs hs, if_pos rfl]; simp⟩
      · refine ⟨h1, ?_⟩
        rw [look_putO h hs h1]
        split
        · simp
        · exact h2
  rw [e1, e2]
  cases hl : lookO T s with
  | none =>
    have hno : s ∉ (itemsO T).map Prod.fst := fun hh => ((mem_keys h s).1 hh).2 hl
    have hd : (s :: (itemsO T).map Prod.fst).Nodup := List.nodup_cons.2 ⟨hno, itemsO_nodup h⟩
    have a1 := sub_len (itemsO_nodup h') (m := s :: (itemsO T).map Prod.fst) fun x hx => List.mem_cons.2 ((hm x).1 hx)
    have a2 := sub_len hd (m := (itemsO (putO T s v)).map Prod.fst) fun x hx => (hm x).2 (List.mem_cons.1 hx)
    simp only [List.length_cons] at a1 a2
    simp only [Option.isNone_none, if_true]
    omega
  | some y =>
    have hin : s ∈ (itemsO T).map Prod.fst := (mem_keys h s).2 ⟨hs, by rw [hl]; simp⟩
    have a1 := sub_len (itemsO_nodup h') (m := (itemsO T).map Prod.fst) fun x hx => ((hm x).1 hx).elim (fun e => e ▸ hin) id
    have a2 := sub_len (itemsO_nodup h) (m := (itemsO (putO T s v)).map Prod.fst) fun x hx => (hm x).2 (.inr hx)
    simp only [Option.isNone_some, Bool.false_eq_true, if_false]
    omega
theorem len_delO {T : Option RT} (h : WFO T) {s : List UInt8} (hs : s.length = 16) (hl : lookO T s ≠ none) : (itemsO (delO T s)).length + 1 = (itemsO T).length := by
  have h' := h.delO hs hl
  have e1 : (itemsO (delO T s)).length = ((itemsO (delO T s)).map Prod.fst).length := by simp
  have e2 : (itemsO T).length = ((itemsO T).map Prod.fst).length := by simp
  have hm : ∀ x, x ∈ (itemsO (delO T s)).map Prod.fst ↔ x ≠ s ∧ x ∈ (itemsO T).map Prod.fst := fun x => by
    rw [mem_keys h', mem_keys h]
    constructor
    · rintro ⟨h1, h2⟩
      rw [look_delO h hs h1 hl] at h2
      by_cases e : x = s
      · rw [if_pos e] at h2; exact absurd rfl h2
      · rw [if_neg e] at h2; exact ⟨e, h1, h2⟩
    · rintro ⟨h0, h1, h2⟩
      exact ⟨h1, by rw [look_delO h hs h1 hl, if_neg h0]; exact h2⟩
  rw [e1, e2]
  have hno : s ∉ (itemsO (delO T s)).map Prod.fst := fun hh => ((hm s).1 hh).1 rfl
  have hin : s ∈ (itemsO T).map Prod.fst := (mem_keys h s).2 ⟨hs, hl⟩
  have hd : (s :: (itemsO (delO T s)).map Prod.fst).Nodup := List.nodup_cons.2 ⟨hno, itemsO_nodup h'⟩
  have a1 := sub_len hd (m := (itemsO T).map Prod.fst) fun x hx => (List.mem_cons.1 hx).elim (fun e => e ▸ hin) fun hx => ((hm x).1 hx).2
  have a2 := sub_len (itemsO_nodup h) (m := s :: (itemsO (delO T s)).map Prod.fst) fun x hx => by
    by_cases e : x = s
    · rw [e]; simp
    · exact List.mem_cons.2 (.inr ((hm x).2 ⟨e, hx⟩))
  simp only [List.length_cons] at a1 a2
  omega
theorem nodesO_le {T : Option RT} (h : WFO T) : nodesO T ≤ 2 * (itemsO T).length ∧ (itemsO T).length ≤ nodesO T ∧ (T ≠ none → nodesO T + 1 ≤ 2 * (itemsO T).length) := by
  cases T with
  | none => exact ⟨by simp [nodesO], by simp [itemsO], fun h => absurd rfl h⟩
  | some t =>
    have := nodes_items (h t rfl)
    exact ⟨by show RT.nodes t ≤ 2 * (RT.items t).length; omega, this.2, fun _ => this.1⟩
end Go.Proofs.Ytbjpfnafhhbmaaa.Rad
