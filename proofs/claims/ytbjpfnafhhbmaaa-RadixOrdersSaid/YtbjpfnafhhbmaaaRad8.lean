/- radix: deleting, in plain Lean. -/
import Derived.Test.YtbjpfnafhhbmaaaRad7
namespace Go.Proofs.Ytbjpfnafhhbmaaa.Rad
open Go.Proofs.Ytbjpfnafhhbmaaa
set_option linter.unusedVariables false
set_option linter.unusedSimpArgs false
namespace RT
/-- Where but one is left below, it joins the node above. -/
def join (b : List UInt8) (w : VT) : List RT → RT
  | [z] => mk (b ++ z.begin) z.v z.kids
  | l => mk b w l
mutual
def del : RT → List UInt8 → RT
  | mk b w k, s => join b w (delS k (s.drop b.length))
def delS : List RT → List UInt8 → List RT
  | [], _ => []
  | t :: l, s => if t.first = s.getD 0 0 then (if t.kids.isEmpty then l else del t s :: l) else t :: delS l s
end
theorem look_join (b : List UInt8) (w : VT) (l : List RT) (s : List UInt8) (hs : b.length < s.length) (hl : ∀ u ∈ l, u.begin ≠ []) : look (join b w l) s = look (mk b w l) s := by
  unfold join
  split
  · next z =>
    have hz := hl z (by simp)
    by_cases hp : s.take b.length = b
    · have hs2 : s = b ++ s.drop b.length := by conv => lhs; rw [← List.take_append_drop b.length s, hp]
      rw [hs2, look_drop, look_append, if_neg (cut_head hs)]
      have e : mk z.begin z.v z.kids = z := by cases z; rfl
      rw [e, lookS]
      by_cases h1 : z.begin.getD 0 0 = (s.drop b.length).getD 0 0
      · rw [if_pos h1]
      · rw [if_neg h1, look_first hz (fun e => h1 e.symm), lookS]
    · rw [look_none hp, look_none]
      intro e
      apply hp
      have := congrArg (List.take b.length) e
      rw [List.take_take, List.length_append, Nat.min_eq_left (by omega), List.take_left' rfl] at this
      exact this
  · rfl
theorem first_join {b : List UInt8} {w : VT} {l : List RT} (hb : b ≠ []) : (join b w l).first = b.getD 0 0 ∧ (join b w l).begin ≠ [] := by
  unfold join
  split
  · next z =>
    cases b with
    | nil => exact absurd rfl hb
    | cons x b => exact ⟨rfl, by simp [begin]⟩
  · exact ⟨rfl, hb⟩
theorem first_del {t : RT} {s : List UInt8} (hb : t.begin ≠ []) : (del t s).first = t.first ∧ (del t s).begin ≠ [] := by
  cases t with
  | mk b w k => rw [del]; exact first_join hb
theorem delS_mem {s : List UInt8} : ∀ {l : List RT} {n : Nat}, WFS n l → ∀ u ∈ delS l s, u.begin ≠ [] ∧ ∃ t ∈ l, u.first = t.first
  | [], _, _, u, hu => by rw [delS] at hu; simp at hu
  | t :: l, n, h, u, hu => by
    have hm := h.mem
    rw [WFS] at h
    rw [delS] at hu
    split at hu
    · split at hu
      · exact ⟨(hm u (by simp [hu])).1, u, by simp [hu], rfl⟩
      · rcases List.mem_cons.1 hu with rfl | hu
        · exact ⟨(first_del h.1).2, t, by simp, (first_del h.1).1⟩
        · exact ⟨(hm u (by simp [hu])).1, u, by simp [hu], rfl⟩
    · rcases List.mem_cons.1 hu with rfl | hu
      · exact ⟨h.1, u, by simp, rfl⟩
      · obtain ⟨h1, t', h2, h3⟩ := delS_mem h.2.2.2 u hu
        exact ⟨h1, t', by simp [h2], h3⟩
mutual
theorem look_del : ∀ {t : RT} {n : Nat} {s s' : List UInt8}, WF n t → t.kids ≠ [] → s.length = n → s'.length = n → (look t s).isSome = true → look (del t s) s' = if s' = s then none else look t s'
  | mk b w k, n, s, s', h, hk, hs, hs', hl => by
    rw [WF] at h
    have hw : b.length < n ∧ WFS (n - b.length) k := by
      rcases h.2 with h | h
      · exact absurd h.1 hk
      · exact ⟨h.2.2.1, h.2.2.2⟩
    have hf : s.take b.length = b := look_pre hl
    have hs1 : s = b ++ s.drop b.length := by conv => lhs; rw [← List.take_append_drop b.length s, hf]
    have hr0 : s.drop b.length ≠ [] := cut_head (by omega)
    rw [hs1, look_append, if_neg hr0] at hl
    rw [del, look_join _ _ _ _ (by omega) fun u hu => (delS_mem hw.2 u hu).1]
    by_cases hp : s'.take b.length = b
    · have hs2 : s' = b ++ s'.drop b.length := by conv => lhs; rw [← List.take_append_drop b.length s', hp]
      have hr : s'.drop b.length ≠ [] := cut_head (by omega)
      have ih := look_delS (s' := s'.drop b.length) hw.2 (s := s.drop b.length) (by simp; omega) (by simp; omega) hl
      conv => lhs; rw [hs2]
      rw [look_append, if_neg hr, ih]
      by_cases h1 : s'.drop b.length = s.drop b.length
      · rw [if_pos h1, if_pos (by rw [hs2, h1, ← hs1])]
      · rw [if_neg h1, if_neg (fun e => h1 (by rw [e]))]
        conv => rhs; rw [hs2]
        rw [look_append, if_neg hr]
    · rw [look_none hp, look_none hp, if_neg (fun e => hp (by rw [e, hf]))]
theorem look_delS : ∀ {l : List RT} {n : Nat} {s s' : List UInt8}, WFS n l → s.length = n → s'.length = n → (lookS l s).isSome = true → lookS (delS l s) s' = if s' = s then none else lookS l s'
  | [], n, s, s', h, _, _, hl => by simp [lookS] at hl
  | t :: l, n, s, s', h, hs, hs', hl => by
    rw [WFS] at h
    have e2 : t.begin.getD 0 0 = t.first := rfl
    rw [delS]
    split
    · next hf =>
      rw [lookS, e2, if_pos hf] at hl
      split
      · next hk =>
        -- a leaf goes
        have hlook : ∀ r : List UInt8, r.length = n → r.getD 0 0 = t.first → lookS l r = none := fun r _ e => lookS_none fun u hu e' => by
          have := h.2.2.1 u hu
          rw [← e', e, UInt8.lt_iff_toNat_lt] at this
          omega
        simp only [lookS]
        rw [e2]
        by_cases h1 : t.first = s'.getD 0 0
        · rw [if_pos h1, hlook s' hs' h1.symm]
          cases t with
          | mk b w k =>
            have hk' : k = [] := by simpa [kids] using hk
            subst hk'
            have hb : b.length = n := by
              have := h.2.1
              rw [WF] at this
              rcases this.2 with h | h
              · exact h.2
              · have := h.1; simp at this
            rw [look_leaf b s w (by omega)] at hl
            have hsb : s = b := by
              apply Decidable.byContradiction
              intro hn
              rw [if_neg hn] at hl; simp at hl
            rw [look_leaf b s' w (by omega), hsb]
            split <;> rfl
        · rw [if_neg h1, if_neg (fun e => h1 (by rw [e]; exact hf))]
      · next hk =>
        have hk' : t.kids ≠ [] := fun e => hk (by rw [e]; rfl)
        simp only [lookS]
        rw [show (del t s).begin.getD 0 0 = t.first from (first_del h.1).1, e2]
        by_cases h1 : t.first = s'.getD 0 0
        · rw [if_pos h1, if_pos h1]
          exact look_del h.2.1 hk' hs hs' hl
        · rw [if_neg h1, if_neg h1, if_neg (fun e => h1 (by rw [e]; exact hf))]
    · next hf =>
      rw [lookS, e2, if_neg hf] at hl
      have ih := look_delS (l := l) (s := s) (s' := s') h.2.2.2 hs hs' hl
      simp only [lookS]
      rw [ih, e2]
      by_cases h1 : t.first = s'.getD 0 0
      · rw [if_pos h1, if_pos h1, if_neg (fun e => hf (by rw [h1, e]))]
      · rw [if_neg h1, if_neg h1]
end
end RT
end Go.Proofs.Ytbjpfnafhhbmaaa.Rad
