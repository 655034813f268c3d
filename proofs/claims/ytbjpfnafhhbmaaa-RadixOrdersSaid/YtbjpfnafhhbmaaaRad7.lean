/- radix: a tree behind a put is a tree. -/
import Derived.Test.YtbjpfnafhhbmaaaRad6
namespace Go.Proofs.Ytbjpfnafhhbmaaa.Rad
open Go.Proofs.Ytbjpfnafhhbmaaa
set_option linter.unusedVariables false
set_option linter.unusedSimpArgs false
namespace RT
theorem lt_of_not_le {a b : UInt8} (h : ¬ a ≤ b) : b < a := by
  rw [UInt8.lt_iff_toNat_lt]
  rw [UInt8.le_iff_toNat_le] at h
  omega
theorem lt_of_le_ne {a b : UInt8} (h : a ≤ b) (hn : a ≠ b) : a < b := by
  rw [UInt8.lt_iff_toNat_lt]
  rw [UInt8.le_iff_toNat_le] at h
  have : a.toNat ≠ b.toNat := fun e => hn (UInt8.toNat_inj.1 e)
  omega
theorem WFS_two {n : Nat} {t u : RT} (ht : t.begin ≠ []) (hu : u.begin ≠ []) (wt : WF n t) (wu : WF n u) (hn : t.first ≠ u.first) : WFS n (addK [t] u) ∧ (addK [t] u).length = 2 := by
  have one : ∀ {a b : RT}, a.begin ≠ [] → b.begin ≠ [] → WF n a → WF n b → a.first < b.first → WFS n [a, b] := fun ha hb wa wb h => by
    simp only [WFS]
    exact ⟨ha, wa, by simpa using h, hb, wb, by simp, trivial⟩
  unfold addK
  split
  · next h => exact ⟨one hu ht wu wt (lt_of_le_ne h fun e => hn e.symm), rfl⟩
  · next h => exact ⟨one ht hu wt wu (lt_of_not_le h), rfl⟩
theorem putS_len (x : VT) (s : List UInt8) : ∀ l : List RT, l.length ≤ (putS l s x).length
  | [] => by simp
  | t :: l => by
    rw [putS]
    split
    · simp
    · split
      · simp
      · have := putS_len x s l
        simp only [List.length_cons]; omega
theorem putS_first {n : Nat} (x : VT) {s : List UInt8} (hs : s ≠ []) : ∀ {l : List RT}, WFS n l → ∀ u ∈ putS l s x, u.first = s.getD 0 0 ∨ ∃ t ∈ l, u.first = t.first
  | [], _, u, hu => by
    rw [putS] at hu
    have : u = mk s x [] := by simpa using hu
    subst this
    exact .inl rfl
  | t :: l, h, u, hu => by
    rw [WFS] at h
    rw [putS] at hu
    split at hu
    · next hf =>
      rcases List.mem_cons.1 hu with rfl | hu
      · exact .inr ⟨t, by simp, (first_put h.1 hs hf).1⟩
      · exact .inr ⟨u, by simp [hu], rfl⟩
    · split at hu
      · rcases List.mem_cons.1 hu with rfl | hu
        · exact .inl rfl
        · exact .inr ⟨u, hu, rfl⟩
      · rcases List.mem_cons.1 hu with rfl | hu
        · exact .inr ⟨u, by simp, rfl⟩
        · rcases putS_first x hs h.2.2.2 u hu with h1 | ⟨t', h1, h2⟩
          · exact .inl h1
          · exact .inr ⟨t', by simp [h1], h2⟩
mutual
theorem WF_put : ∀ {t : RT} {n : Nat} (x : VT) {s : List UInt8}, WF n t → s.length = n → WF n (put t s x)
  | mk b w k, n, x, s, h, hs => by
    have hn : b.length ≤ n := by rw [WF] at h; exact h.1
    rw [put]
    split
    · next hm =>
      have hms : alikeN b s < s.length := by omega
      have hpart := alike_part hm hms
      generalize hmm : alikeN b s = m at *
      have hfirst : (mk (b.drop m) w k).first ≠ (mk (s.drop m) x []).first := by
        show (b.drop m).getD 0 0 ≠ (s.drop m).getD 0 0
        rw [head_drop, head_drop]; exact hpart
      have hl : (b.take m).length = m := by simp; omega
      have h2 := WFS_two (n := n - m) (t := mk (b.drop m) w k) (u := mk (s.drop m) x []) (cut_head hm) (cut_head (by omega)) (by
        rw [WF] at h ⊢
        refine ⟨by simp; omega, h.2.imp (fun h => ⟨h.1, by simp; omega⟩) fun h => ⟨h.1, h.2.1, by simp; omega, ?_⟩⟩
        rw [show n - m - (b.drop m).length = n - b.length by simp; omega]
        exact h.2.2.2) (by
        rw [WF]
        exact ⟨by simp; omega, .inl ⟨rfl, by simp; omega⟩⟩) hfirst
      rw [WF, hl]
      exact ⟨by omega, .inr ⟨by omega, rfl, by omega, h2.1⟩⟩
    · next hm =>
      have hf := alike_full hm
      rw [WF] at h
      split
      · next hd =>
        have hl : s.length ≤ b.length := by simpa using hd
        rw [WF]
        refine ⟨hn, .inl ?_⟩
        rcases h.2 with h | h
        · exact h
        · omega
      · next hd =>
        have hlt : b.length < s.length := by
          apply Decidable.byContradiction
          intro h2
          exact hd (List.drop_eq_nil_of_le (by omega))
        rcases h.2 with h | h
        · omega
        · rw [WF]
          refine ⟨hn, .inr ⟨Nat.le_trans h.1 (putS_len _ _ _), h.2.1, h.2.2.1, WF_putS x h.2.2.2 (by simp; omega) (by omega)⟩⟩
theorem WF_putS : ∀ {l : List RT} {n : Nat} (x : VT) {s : List UInt8}, WFS n l → s.length = n → 0 < n → WFS n (putS l s x)
  | [], n, x, s, _, hs, h0 => by
    rw [putS]
    simp only [WFS, WF]
    exact ⟨fun e => by have : s = [] := e; subst this; simp at hs; omega, ⟨by omega, by simp; exact hs⟩, by simp, trivial⟩
  | t :: l, n, x, s, h, hs, h0 => by
    have hsn : s ≠ [] := fun e => by subst e; simp at hs; omega
    have h' := h
    rw [WFS] at h
    rw [putS]
    split
    · next hf =>
      have hfp := first_put (x := x) h.1 hsn hf
      rw [WFS]
      exact ⟨hfp.2, WF_put x h.2.1 hs, fun u hu => by rw [hfp.1]; exact h.2.2.1 u hu, h.2.2.2⟩
    · next hf =>
      split
      · next hlt =>
        rw [WFS]
        refine ⟨hsn, by rw [WF]; exact ⟨by omega, .inl ⟨rfl, hs⟩⟩, fun u hu => ?_, h'⟩
        show s.getD 0 0 < u.first
        rcases List.mem_cons.1 hu with rfl | hu
        · exact hlt
        · have := h.2.2.1 u hu
          rw [UInt8.lt_iff_toNat_lt] at *
          omega
      · next hlt =>
        rw [WFS]
        refine ⟨h.1, h.2.1, fun u hu => ?_, WF_putS x h.2.2.2 hs h0⟩
        rcases putS_first x hsn h.2.2.2 u hu with h1 | ⟨t', h1, h2⟩
        · rw [h1]
          exact lt_of_le_ne (by
            rw [UInt8.le_iff_toNat_le]
            rw [UInt8.lt_iff_toNat_lt] at hlt
            omega) hf
        · rw [h2]; exact h.2.2.1 t' h1
end
end RT
end Go.Proofs.Ytbjpfnafhhbmaaa.Rad
