/- radix: a tree is what it has. -/
import Derived.Test.YtbjpfnafhhbmaaaRad3
namespace Go.Proofs.Ytbjpfnafhhbmaaa.Rad
open Go.Proofs.Ytbjpfnafhhbmaaa
set_option linter.unusedVariables false
set_option linter.unusedSimpArgs false
namespace RT
theorem WFS.mem : ∀ {l : List RT} {n : Nat}, WFS n l → ∀ u ∈ l, u.begin ≠ [] ∧ WF n u
  | [], _, _, u, hu => by simp at hu
  | t :: l, n, h, u, hu => by
    rw [WFS] at h
    rcases List.mem_cons.1 hu with rfl | hu
    · exact ⟨h.1, h.2.1⟩
    · exact h.2.2.2.mem u hu
theorem look_pre {t : RT} {s : List UInt8} (h : (look t s).isSome = true) : s.take t.begin.length = t.begin := by
  cases t with
  | mk b v k =>
    by_cases hs : s.take b.length = b
    · exact hs
    · rw [look_none hs] at h; simp at h
/-- Two things of a tree that parts, unlike where it parts. -/
theorem two_keys {b : List UInt8} {v : VT} {k : List RT} {n : Nat} (h : WF n (mk b v k)) (hk : k ≠ []) : ∃ s s', s.length = n ∧ s'.length = n ∧ (look (mk b v k) s).isSome = true ∧ (look (mk b v k) s').isSome = true ∧ s.getD b.length 0 ≠ s'.getD b.length 0 ∧ b.length < n := by
  rw [WF] at h
  rcases h.2 with ⟨h1, _⟩ | ⟨h1, _, hb, hw⟩
  · exact absurd h1 hk
  · match k, h1, hw with
    | t :: u :: l, _, hw =>
      rw [WFS] at hw
      obtain ⟨s, s1, s2, t', ht, s3⟩ := some_keyS (l := [t]) (n := n - b.length) (by rw [WFS]; exact ⟨hw.1, hw.2.1, by simp, by rw [WFS]; trivial⟩) (by simp)
      have hwu := hw.2.2.2
      have hfu := hw.2.2.1 u (by simp)
      rw [WFS] at hwu
      obtain ⟨r, r1, r2, u', hu, r3⟩ := some_keyS (l := [u]) (n := n - b.length) (by rw [WFS]; exact ⟨hwu.1, hwu.2.1, by simp, by rw [WFS]; trivial⟩) (by simp)
      cases ht; cases hu
      have hne : ∀ x : List UInt8, x.length = n - b.length → x ≠ [] := fun x hx e => by subst e; simp at hx; omega
      have hg : ∀ x : List UInt8, (b ++ x).getD b.length 0 = x.getD 0 0 := fun x => by simp [List.getD, List.getElem?_append_right]
      refine ⟨b ++ s, b ++ r, by simp; omega, by simp; omega, ?_, ?_, ?_, hb⟩
      · rw [look_append, if_neg (hne s s1), lookS, if_pos (by rw [s3]; rfl)]
        rw [lookS, if_pos (by rw [s3]; rfl)] at s2
        exact s2
      · rw [look_append, if_neg (hne r r1), lookS, if_neg (by rw [r3]; intro e; rw [first, first, e] at hfu; exact absurd hfu (by rw [first]; simp)), lookS, if_pos (by rw [r3]; rfl)]
        rw [lookS, if_pos (by rw [r3]; rfl)] at r2
        exact r2
      · rw [hg, hg, s3, r3]
        intro e; rw [e] at hfu; exact absurd hfu (by simp)
theorem begin_le {t1 t2 : RT} {n : Nat} (h1 : WF n t1) (h2 : WF n t2) (h : ∀ s, s.length = n → look t1 s = look t2 s) : t2.begin.length ≤ t1.begin.length := by
  cases t1 with
  | mk b v k =>
    by_cases hk : k = []
    · subst hk
      have hb : b.length = n := by
        rw [WF] at h1
        rcases h1.2 with h | h
        · exact h.2
        · have := h.1; simp at this
      cases t2 with
      | mk b' v' k' => rw [WF] at h2; simp only [begin]; omega
    · obtain ⟨s, s', l1, l2, e1, e2, hd, hn⟩ := two_keys h1 hk
      rw [h s l1] at e1
      rw [h s' l2] at e2
      have p1 := look_pre e1
      have p2 := look_pre e2
      show t2.begin.length ≤ b.length
      apply Decidable.byContradiction
      intro hc
      apply hd
      have hlt : b.length < t2.begin.length := by omega
      have := congrArg (fun x => x.getD b.length 0) (p1.trans p2.symm)
      simp only [List.getD, List.getElem?_take_of_lt hlt] at this
      exact this
mutual
theorem canon : ∀ {t1 t2 : RT} {n : Nat}, WF n t1 → WF n t2 → (∀ s, s.length = n → look t1 s = look t2 s) → t1 = t2
  | mk b v k, mk b' v' k', n, h1, h2, h => by
    have hb : b = b' := by
      have q1 := begin_le h1 h2 h
      have q2 := begin_le h2 h1 fun s hs => (h s hs).symm
      obtain ⟨s, l1, e1, p1⟩ := some_key h1
      rw [h s l1] at e1
      have p2 := look_pre e1
      simp only [begin] at *
      rw [← p1, ← p2, show b.length = b'.length by omega]
    subst hb
    have h1' := h1
    have h2' := h2
    rw [WF] at h1 h2
    rcases h1.2 with ⟨rfl, e1⟩ | ⟨k1, rfl, e1, w1⟩
    · rcases h2.2 with ⟨rfl, e2⟩ | ⟨k2, rfl, e2, w2⟩
      · have := h b e1
        have a1 := look_append b [] v []
        have a2 := look_append b [] v' []
        rw [List.append_nil] at a1 a2
        rw [a1, a2] at this
        simpa using this
      · omega
    · rcases h2.2 with ⟨rfl, e2⟩ | ⟨k2, rfl, e2, w2⟩
      · omega
      · have := canonS w1 w2 fun s hs => by
          have := h (b ++ s) (by simp; omega)
          rw [look_append, look_append] at this
          have hne : s ≠ [] := fun e => by subst e; simp at hs; omega
          rw [if_neg hne, if_neg hne] at this
          exact this
        rw [this]
theorem canonS : ∀ {l1 l2 : List RT} {n : Nat}, WFS n l1 → WFS n l2 → (∀ s, s.length = n → lookS l1 s = lookS l2 s) → l1 = l2
  | [], [], n, _, _, _ => rfl
  | [], u :: m, n, _, h2, h => by
    obtain ⟨s, s1, s2, _⟩ := some_keyS h2 (by simp)
    rw [← h s s1] at s2
    simp [lookS] at s2
  | t :: l, [], n, h1, _, h => by
    obtain ⟨s, s1, s2, _⟩ := some_keyS h1 (by simp)
    rw [h s s1] at s2
    simp [lookS] at s2
  | t :: l, u :: m, n, h1, h2, h => by
    have hf : t.first = u.first := by
      obtain ⟨s, s1, s2, t', ht, s3⟩ := some_keyS h1 (by simp)
      obtain ⟨r, r1, r2, u', hu, r3⟩ := some_keyS h2 (by simp)
      cases ht; cases hu
      rw [h s s1] at s2
      rw [← h r r1] at r2
      rw [WFS] at h1 h2
      apply Decidable.byContradiction
      intro hne
      have hne2 : t.first.toNat ≠ u.first.toNat := fun e => hne (UInt8.toNat_inj.1 e)
      rcases Nat.lt_or_gt_of_ne hne2 with hlt | hlt
      · rw [lookS_none] at s2
        · simp at s2
        · intro x hx e
          rw [s3] at e
          rcases List.mem_cons.1 hx with rfl | hx
          · exact hne e
          · have := h2.2.2.1 x hx
            rw [UInt8.lt_iff_toNat_lt, ← e] at this
            omega
      · rw [lookS_none] at r2
        · simp at r2
        · intro x hx e
          rw [r3] at e
          rcases List.mem_cons.1 hx with rfl | hx
          · exact hne e.symm
          · have := h1.2.2.1 x hx
            rw [UInt8.lt_iff_toNat_lt, ← e] at this
            omega
    rw [WFS] at h1 h2
    have e1 : t = u := canon h1.2.1 h2.2.1 fun s hs => by
      by_cases hc : s.getD 0 0 = t.first
      · have := h s hs
        rw [lookS, lookS, if_pos (by rw [hc]; rfl), if_pos (by rw [hc, hf]; rfl)] at this
        exact this
      · rw [look_first h1.1 hc, look_first h2.1 (by rw [← hf]; exact hc)]
    have e2 : l = m := canonS h1.2.2.2 h2.2.2.2 fun s hs => by
      by_cases hc : s.getD 0 0 = t.first
      · rw [lookS_none fun x hx e => ?_, lookS_none fun x hx e => ?_]
        · have := h2.2.2.1 x hx
          rw [UInt8.lt_iff_toNat_lt, ← e, hc, hf] at this
          omega
        · have := h1.2.2.1 x hx
          rw [UInt8.lt_iff_toNat_lt, ← e, hc] at this
          omega
      · have := h s hs
        rw [lookS, lookS, if_neg (fun e => hc e.symm), if_neg (fun e => hc (by rw [hf]; exact e.symm))] at this
        exact this
    rw [e1, e2]
end
end RT
end Go.Proofs.Ytbjpfnafhhbmaaa.Rad
