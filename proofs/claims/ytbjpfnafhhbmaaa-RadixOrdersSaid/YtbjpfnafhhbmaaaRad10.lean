/- radix: the things of a tree in a row, and how many nodes it has. -/
import Derived.Test.YtbjpfnafhhbmaaaRad9
namespace Go.Proofs.Ytbjpfnafhhbmaaa.Rad
open Go.Proofs.Ytbjpfnafhhbmaaa
set_option linter.unusedVariables false
set_option linter.unusedSimpArgs false
namespace RT
mutual
/-- All things of a tree, from left to right. -/
def items : RT → List (List UInt8 × VT)
  | mk b v k => if k.isEmpty then [(b, v)] else (itemsS k).map fun p => (b ++ p.1, p.2)
def itemsS : List RT → List (List UInt8 × VT)
  | [] => []
  | t :: l => items t ++ itemsS l
end
mutual
theorem nodes_items : ∀ {t : RT} {n : Nat}, WF n t → nodes t + 1 ≤ 2 * (items t).length ∧ (items t).length ≤ nodes t
  | mk b v k, n, h => by
    rw [WF] at h
    rw [nodes, items]
    rcases h.2 with h | h
    · obtain ⟨rfl, _⟩ := h
      simp [nodesS]
    · have := nodes_itemsS h.2.2.2
      have hk : k.isEmpty = false := by cases k with
        | nil => have := h.1; simp at this
        | cons _ _ => rfl
      rw [hk]
      simp only [Bool.false_eq_true, if_false, List.length_map]
      omega
theorem nodes_itemsS : ∀ {l : List RT} {n : Nat}, WFS n l → nodesS l + l.length ≤ 2 * (itemsS l).length ∧ (itemsS l).length ≤ nodesS l
  | [], n, h => by simp [nodesS, itemsS]
  | t :: l, n, h => by
    rw [WFS] at h
    have h1 := nodes_items h.2.1
    have h2 := nodes_itemsS h.2.2.2
    simp only [nodesS, itemsS, List.length_append, List.length_cons]
    omega
end
mutual
theorem mem_items : ∀ {t : RT} {n : Nat} (s : List UInt8) (x : VT), WF n t → ((s, x) ∈ items t ↔ s.length = n ∧ look t s = some x)
  | mk b v k, n, s, x, h => by
    rw [WF] at h
    rw [items]
    rcases h.2 with h | h
    · obtain ⟨rfl, hb⟩ := h
      simp only [List.isEmpty_nil, if_true, List.mem_singleton, Prod.mk.injEq]
      constructor
      · rintro ⟨rfl, rfl⟩
        exact ⟨hb, by rw [look_leaf _ _ _ rfl, if_pos rfl]⟩
      · rintro ⟨hs, hl⟩
        rw [look_leaf _ _ _ (by omega)] at hl
        split at hl
        · next e => exact ⟨e, by simpa using hl.symm⟩
        · cases hl
    · have hk : k.isEmpty = false := by cases k with
        | nil => have := h.1; simp at this
        | cons _ _ => rfl
      rw [hk]
      simp only [Bool.false_eq_true, if_false, List.mem_map, Prod.mk.injEq]
      constructor
      · rintro ⟨⟨r, y⟩, hm, rfl, rfl⟩
        have := (mem_itemsS r y h.2.2.2).1 hm
        refine ⟨by simp; omega, ?_⟩
        rw [look_append, if_neg (fun e => by have := this.1; simp only at e; rw [e] at this; simp at this; omega)]
        exact this.2
      · rintro ⟨hs, hl⟩
        have hf : s.take b.length = b := look_pre (t := mk b v k) (by rw [hl]; rfl)
        have hs1 : s = b ++ s.drop b.length := by conv => lhs; rw [← List.take_append_drop b.length s, hf]
        have hr0 : s.drop b.length ≠ [] := cut_head (by omega)
        rw [hs1, look_append, if_neg hr0] at hl
        exact ⟨(s.drop b.length, x), (mem_itemsS _ _ h.2.2.2).2 ⟨by simp; omega, hl⟩, hs1.symm, rfl⟩
theorem mem_itemsS : ∀ {l : List RT} {n : Nat} (s : List UInt8) (x : VT), WFS n l → ((s, x) ∈ itemsS l ↔ s.length = n ∧ lookS l s = some x)
  | [], n, s, x, h => by simp [itemsS, lookS]
  | t :: l, n, s, x, h => by
    rw [WFS] at h
    have e2 : t.begin.getD 0 0 = t.first := rfl
    rw [itemsS, List.mem_append, mem_items s x h.2.1, mem_itemsS s x h.2.2.2, lookS, e2]
    by_cases h1 : t.first = s.getD 0 0
    · rw [if_pos h1, lookS_none]
      · simp
      · intro u hu e
        have := h.2.2.1 u hu
        rw [UInt8.lt_iff_toNat_lt, ← e, h1] at this
        omega
    · rw [if_neg h1, look_first h.1 (fun e => h1 e.symm)]
      simp
end
end RT
end Go.Proofs.Ytbjpfnafhhbmaaa.Rad
