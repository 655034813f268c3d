/- radix: the things of a tree rise. -/
import Derived.Test.YtbjpfnafhhbmaaaRad10
namespace Go.Proofs.Ytbjpfnafhhbmaaa.Rad
open Go.Proofs.Ytbjpfnafhhbmaaa
set_option linter.unusedVariables false
set_option linter.unusedSimpArgs false
namespace RT
theorem append_lt (b : List UInt8) {r r' : List UInt8} (h : r < r') : b ++ r < b ++ r' := by
  induction b with
  | nil => exact h
  | cons x b ih =>
    rw [List.cons_append, List.cons_append, List.cons_lt_cons_iff]
    exact .inr ⟨rfl, ih⟩
theorem head_lt {s s' : List UInt8} (hs : s ≠ []) (hs' : s' ≠ []) (h : s.getD 0 0 < s'.getD 0 0) : s < s' := by
  cases s with
  | nil => exact absurd rfl hs
  | cons x s =>
    cases s' with
    | nil => exact absurd rfl hs'
    | cons y s' =>
      rw [List.cons_lt_cons_iff]
      exact .inl h
theorem item_first {t : RT} {n : Nat} {p : List UInt8 × VT} (h : WF n t) (hb : t.begin ≠ []) (hp : p ∈ items t) : p.1.getD 0 0 = t.first ∧ p.1 ≠ [] := by
  have := (mem_items p.1 p.2 h).1 hp
  have hl : (look t p.1).isSome = true := by rw [this.2]; rfl
  have hf : p.1.getD 0 0 = t.first := by
    apply Decidable.byContradiction
    intro hn
    rw [look_first hb hn] at hl; simp at hl
  refine ⟨hf, fun e => ?_⟩
  have h2 := look_pre hl
  rw [e] at h2
  simp at h2
  exact hb h2
mutual
theorem items_rise : ∀ {t : RT} {n : Nat}, WF n t → (items t).Pairwise fun p q => p.1 < q.1
  | mk b v k, n, h => by
    rw [WF] at h
    rw [items]
    split
    · simp
    · rcases h.2 with h | h
      · obtain ⟨rfl, _⟩ := h
        simp [itemsS]
      · rw [List.pairwise_map]
        exact (items_riseS h.2.2.2).imp fun h => append_lt b h
theorem items_riseS : ∀ {l : List RT} {n : Nat}, WFS n l → (itemsS l).Pairwise fun p q => p.1 < q.1
  | [], n, h => by simp [itemsS]
  | t :: l, n, h => by
    have hm := h.mem
    rw [WFS] at h
    rw [itemsS, List.pairwise_append]
    refine ⟨items_rise h.2.1, items_riseS h.2.2.2, fun p hp q hq => ?_⟩
    have h1 := item_first h.2.1 h.1 hp
    have h2 : ∃ u ∈ l, q ∈ items u := by
      clear hm h h1 hp
      induction l with
      | nil => simp [itemsS] at hq
      | cons u l ih =>
        rw [itemsS, List.mem_append] at hq
        rcases hq with hq | hq
        · exact ⟨u, by simp, hq⟩
        · obtain ⟨u', h1, h2⟩ := ih hq
          exact ⟨u', by simp [h1], h2⟩
    obtain ⟨u, hu, hqu⟩ := h2
    have hwu := hm u (by simp [hu])
    have h3 := item_first hwu.2 hwu.1 hqu
    exact head_lt h1.2 h3.2 (by rw [h1.1, h3.1]; exact h.2.2.1 u hu)
end
end RT
end Go.Proofs.Ytbjpfnafhhbmaaa.Rad
