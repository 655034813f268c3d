/- radix: trees in plain Lean. -/
import Derived.Test.YtbjpfnafhhbmaaaRad12
namespace Go.Proofs.Ytbjpfnafhhbmaaa.Rad
open Go.Proofs.Ytbjpfnafhhbmaaa
set_option linter.unusedVariables false
set_option linter.unusedSimpArgs false
/-- A thing, as a cell, and the one that was not put. -/
abbrev VT : Type := Int
abbrev vC (v : VT) : Value := .int .i64 v
def zT : VT := 0
/-- A node: the bytes it begins with, its thing, the nodes below. -/
inductive RT where
  | mk (begin : List UInt8) (v : VT) (kids : List RT)
namespace RT
def begin : RT → List UInt8
  | mk b _ _ => b
def v : RT → VT
  | mk _ v _ => v
def kids : RT → List RT
  | mk _ _ k => k
def first (t : RT) : UInt8 := t.begin.getD 0 0
mutual
/-- The thing of bytes. -/
def look : RT → List UInt8 → Option VT
  | mk b v k, s => if alikeN b s < b.length then none else
      if s.drop b.length = [] then some v else lookS k (s.drop b.length)
def lookS : List RT → List UInt8 → Option VT
  | [], _ => none
  | t :: l, s => if t.begin.getD 0 0 = s.getD 0 0 then look t s else lookS l s
end
mutual
/-- How many nodes. -/
def nodes : RT → Nat
  | mk _ _ k => 1 + nodesS k
def nodesS : List RT → Nat
  | [] => 0
  | t :: l => nodes t + nodesS l
end
mutual
/-- A tree of bytes of one length n: leaves have no nodes below; others two and more, by rising first bytes, and the thing 0. -/
def WF : Nat → RT → Prop
  | n, mk b v k => b.length ≤ n ∧ ((k = [] ∧ b.length = n) ∨ (2 ≤ k.length ∧ v = zT ∧ b.length < n ∧ WFS (n - b.length) k))
/-- Nodes below one: none begins with nothing; their first bytes rise. -/
def WFS : Nat → List RT → Prop
  | _, [] => True
  | n, t :: l => t.begin ≠ [] ∧ WF n t ∧ (∀ u ∈ l, t.first < u.first) ∧ WFS n l
end
theorem alike_full {b s : List UInt8} (h : ¬ alikeN b s < b.length) : s.take b.length = b := by
  have h1 := alikeN_le b s
  have h2 := alikeN_take b s
  rw [show alikeN b s = b.length by omega, List.take_length] at h2
  exact h2.symm
theorem alike_append (b s : List UInt8) : ¬ alikeN b (b ++ s) < b.length := by
  induction b with
  | nil => simp
  | cons x b ih => simp only [List.cons_append, alikeN, if_true, List.length_cons]; omega
theorem look_append (b s : List UInt8) (v : VT) (k : List RT) : look (mk b v k) (b ++ s) = if s = [] then some v else lookS k s := by
  rw [look, if_neg (alike_append b s), List.drop_left]
theorem look_none {b s : List UInt8} {v : VT} {k : List RT} (h : s.take b.length ≠ b) : look (mk b v k) s = none := by
  rw [look]
  split
  · rfl
  · next h2 => exact absurd (alike_full h2) h
theorem look_first {t : RT} {s : List UInt8} (hb : t.begin ≠ []) (hs : s.getD 0 0 ≠ t.first) : look t s = none := by
  cases t with
  | mk b v k =>
    apply look_none
    intro h
    apply hs
    simp only [first, begin] at *
    cases b with
    | nil => exact absurd rfl hb
    | cons x b =>
      cases s with
      | nil => simp at h
      | cons y s => simp at h; simp [h.1]
theorem lookS_none {l : List RT} {s : List UInt8} (h : ∀ u ∈ l, s.getD 0 0 ≠ u.first) : lookS l s = none := by
  induction l with
  | nil => rfl
  | cons t l ih =>
    rw [lookS, if_neg (fun e => h t (by simp) e.symm)]
    exact ih fun u hu => h u (by simp [hu])
mutual
/-- There is something in a tree. -/
theorem some_key : ∀ {t : RT} {n : Nat}, WF n t → ∃ s, s.length = n ∧ (look t s).isSome = true ∧ s.take t.begin.length = t.begin
  | mk b v k, n, h => by
    rw [WF] at h
    rcases h.2 with ⟨hk, hb⟩ | ⟨hk, hv, hb, hw⟩
    · refine ⟨b, hb, ?_, by simp [begin]⟩
      have := look_append b [] v k
      rw [List.append_nil] at this
      rw [this]; rfl
    · obtain ⟨s, h1, h2, h3⟩ := some_keyS hw (by omega)
      refine ⟨b ++ s, by simp; omega, ?_, by simp [begin]⟩
      rw [look_append, if_neg]
      · exact h2
      · intro e; subst e; simp at h1; omega
theorem some_keyS : ∀ {l : List RT} {n : Nat}, WFS n l → 0 < l.length → ∃ s, s.length = n ∧ (lookS l s).isSome = true ∧ ∃ t, l.head? = some t ∧ s.getD 0 0 = t.first
  | [], n, _, h => by simp at h
  | t :: l, n, h, _ => by
    rw [WFS] at h
    obtain ⟨s, h1, h2, h3⟩ := some_key h.2.1
    have hf : s.getD 0 0 = t.first := by
      rw [first, ← h3]
      have : 0 < t.begin.length := List.length_pos_iff.2 h.1
      simp [List.getD, List.getElem?_take_of_lt this]
    exact ⟨s, h1, by rw [lookS, if_pos (by rw [hf]; rfl)]; exact h2, t, rfl, hf⟩
end
end RT
end Go.Proofs.Ytbjpfnafhhbmaaa.Rad
