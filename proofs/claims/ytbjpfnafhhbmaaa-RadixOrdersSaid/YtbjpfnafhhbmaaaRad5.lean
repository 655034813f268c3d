/- radix: putting into a tree, in plain Lean. -/
import Derived.Test.YtbjpfnafhhbmaaaRad4
namespace Go.Proofs.Ytbjpfnafhhbmaaa.Rad
open Go.Proofs.Ytbjpfnafhhbmaaa
set_option linter.unusedVariables false
set_option linter.unusedSimpArgs false
namespace RT
/-- A node among nodes, in its place. -/
def addK (l : List RT) (y : RT) : List RT :=
  match l with
  | [] => [y]
  | t :: l => if y.first ≤ t.first then y :: t :: l else t :: addK l y
mutual
def put : RT → List UInt8 → VT → RT
  | mk b w k, s, x =>
    if alikeN b s < b.length then mk (b.take (alikeN b s)) zT (addK [mk (b.drop (alikeN b s)) w k] (mk (s.drop (alikeN b s)) x []))
    else if s.drop b.length = [] then mk b x k
    else mk b w (putS k (s.drop b.length) x)
def putS : List RT → List UInt8 → VT → List RT
  | [], s, x => [mk s x []]
  | t :: l, s, x => if t.first = s.getD 0 0 then put t s x :: l else if s.getD 0 0 < t.first then mk s x [] :: t :: l else t :: putS l s x
end
theorem look_leaf (b s : List UInt8) (v : VT) (h : s.length = b.length) : look (mk b v []) s = if s = b then some v else none := by
  by_cases he : s = b
  · subst he
    rw [if_pos rfl]
    have := look_append s [] v []
    rw [List.append_nil] at this
    rw [this]; rfl
  · rw [if_neg he, look_none]
    rw [← h, List.take_length]
    exact he
theorem alike_part {b s : List UInt8} (h : alikeN b s < b.length) (hs : alikeN b s < s.length) : b.getD (alikeN b s) 0 ≠ s.getD (alikeN b s) 0 := by
  induction b generalizing s with
  | nil => simp at h
  | cons x b ih =>
    cases s with
    | nil => simp at hs
    | cons y s =>
      simp only [alikeN] at *
      split
      · next e =>
        rw [if_pos e] at h hs
        simpa [List.getD] using ih (by simpa using h) (by simpa using hs)
      · next e => simpa [List.getD] using e
theorem look_drop (p c r : List UInt8) (w : VT) (k : List RT) : look (mk (p ++ c) w k) (p ++ r) = look (mk c w k) r := by
  by_cases h : r.take c.length = c
  · obtain ⟨q, hq⟩ : ∃ q, r = c ++ q := ⟨r.drop c.length, by have := List.take_append_drop c.length r; rw [h] at this; exact this.symm⟩
    subst hq
    rw [← List.append_assoc, look_append, look_append]
  · rw [look_none h, look_none]
    intro e
    apply h
    rw [List.length_append, List.take_append, List.take_of_length_le (by omega), Nat.add_sub_cancel_left] at e
    exact List.append_cancel_left e
theorem lookS_pair {t u : RT} (h : t.first ≠ u.first) (r : List UInt8) : lookS (addK [t] u) r = if r.getD 0 0 = u.first then look u r else if r.getD 0 0 = t.first then look t r else none := by
  have e1 : ∀ x : RT, (x.begin.getD 0 0 = r.getD 0 0) = (r.getD 0 0 = x.first) := fun x => propext ⟨fun h => h.symm, fun h => h.symm⟩
  unfold addK
  split
  · simp only [lookS, e1]
  · simp only [addK, lookS, e1]
    by_cases h1 : r.getD 0 0 = t.first
    · rw [if_pos h1, if_neg (fun h2 => h (h1.symm.trans h2)), if_pos h1]
    · rw [if_neg h1]
      by_cases h2 : r.getD 0 0 = u.first
      · rw [if_pos h2, if_pos h2]
      · rw [if_neg h2, if_neg h2, if_neg h1]
theorem head_take {b : List UInt8} {m : Nat} (h : 0 < m) : (b.take m).getD 0 0 = b.getD 0 0 := by
  simp [List.getD, List.getElem?_take_of_lt h]
theorem head_drop (b : List UInt8) (m : Nat) : (b.drop m).getD 0 0 = b.getD m 0 := by simp [List.getD]
theorem alike_pos {b s : List UInt8} (hb : b ≠ []) (hs : s ≠ []) (h : b.getD 0 0 = s.getD 0 0) : 0 < alikeN b s := by
  cases b with
  | nil => exact absurd rfl hb
  | cons x b =>
    cases s with
    | nil => exact absurd rfl hs
    | cons y s =>
      have : x = y := by simpa using h
      simp [alikeN, this]
theorem first_put {t : RT} {s : List UInt8} {x : VT} (hb : t.begin ≠ []) (hs : s ≠ []) (h : t.first = s.getD 0 0) : (put t s x).first = t.first ∧ (put t s x).begin ≠ [] := by
  cases t with
  | mk b w k =>
    have hb' : b ≠ [] := hb
    have h' : b.getD 0 0 = s.getD 0 0 := h
    show (put (mk b w k) s x).begin.getD 0 0 = b.getD 0 0 ∧ _
    rw [put]
    split
    · have hp := alike_pos hb' hs h'
      refine ⟨head_take hp, ?_⟩
      show b.take (alikeN b s) ≠ []
      intro e
      have := congrArg List.length e
      have h3 : 0 < b.length := List.length_pos_iff.2 hb'
      rw [List.length_take, List.length_nil] at this
      omega
    · split
      · exact ⟨rfl, hb'⟩
      · exact ⟨rfl, hb'⟩
end RT
end Go.Proofs.Ytbjpfnafhhbmaaa.Rad
