/- radix: what a tree has behind a put. -/
import Derived.Test.YtbjpfnafhhbmaaaRad5
namespace Go.Proofs.Ytbjpfnafhhbmaaa.Rad
open Go.Proofs.Ytbjpfnafhhbmaaa
set_option linter.unusedVariables false
set_option linter.unusedSimpArgs false
namespace RT
theorem cut_head {l : List UInt8} {m : Nat} (h : m < l.length) : l.drop m ≠ [] := by
  intro e
  have := congrArg List.length e
  rw [List.length_drop, List.length_nil] at this
  omega
mutual
theorem look_put : ∀ {t : RT} {n : Nat} (x : VT) {s s' : List UInt8}, WF n t → s.length = n → s'.length = n → look (put t s x) s' = if s' = s then some x else look t s'
  | mk b w k, n, x, s, s', h, hs, hs' => by
    have hn : b.length ≤ n := by rw [WF] at h; exact h.1
    rw [put]
    split
    · next hm =>
      have hms : alikeN b s < s.length := by omega
      have hpart := alike_part hm hms
      have htk := alikeN_take b s
      generalize hmm : alikeN b s = m at *
      by_cases hp : s'.take m = b.take m
      · have hs2 : s' = b.take m ++ s'.drop m := by rw [← hp, List.take_append_drop]
        have hs1 : s = b.take m ++ s.drop m := by rw [htk, List.take_append_drop]
        have hb1 : b = b.take m ++ b.drop m := (List.take_append_drop m b).symm
        have hr : s'.drop m ≠ [] := cut_head (by omega)
        have hfirst : (mk (b.drop m) w k).first ≠ (mk (s.drop m) x []).first := by
          show (b.drop m).getD 0 0 ≠ (s.drop m).getD 0 0
          rw [head_drop, head_drop]; exact hpart
        have hR : (if s' = s then some x else look (mk b w k) s') = if s'.drop m = s.drop m then some x else look (mk (b.drop m) w k) (s'.drop m) := by
          have e1 : look (mk b w k) s' = look (mk (b.drop m) w k) (s'.drop m) := by
            have := look_drop (b.take m) (b.drop m) (s'.drop m) w k
            rw [List.take_append_drop, ← hs2] at this
            exact this
          rw [e1]
          by_cases h1 : s'.drop m = s.drop m
          · rw [if_pos h1, if_pos (by rw [hs2, hs1, h1])]
          · rw [if_neg h1, if_neg (fun e => h1 (by rw [e]))]
        rw [hR]
        conv => lhs; rw [hs2]
        rw [look_append, if_neg hr, lookS_pair hfirst]
        have hl : (s'.drop m).length = (s.drop m).length := by simp; omega
        by_cases h1 : (s'.drop m).getD 0 0 = (mk (s.drop m) x []).first
        · rw [if_pos h1, look_leaf _ _ _ hl]
          by_cases h2 : s'.drop m = s.drop m
          · rw [if_pos h2, if_pos h2]
          · rw [if_neg h2, if_neg h2, look_first (t := mk (b.drop m) w k) (cut_head hm) (by rw [h1]; exact fun e => hfirst e.symm)]
        · have h3 : ¬ s'.drop m = s.drop m := fun e => h1 (by rw [e]; rfl)
          rw [if_neg h1, if_neg h3]
          by_cases h2 : (s'.drop m).getD 0 0 = (mk (b.drop m) w k).first
          · rw [if_pos h2]
          · rw [if_neg h2, look_first (t := mk (b.drop m) w k) (cut_head hm) h2]
      · rw [look_none (by rw [show (b.take m).length = m by simp; omega]; exact hp), if_neg (fun e => hp (by rw [e, htk])), look_none]
        intro e
        apply hp
        rw [← e, List.take_take, Nat.min_eq_left (by omega)]
    · next hm =>
      have hf := alike_full hm
      split
      · next hd =>
        have hl : s.length ≤ b.length := by simpa using hd
        have hsb : s = b := by rw [← hf, List.take_of_length_le hl]
        rw [WF] at h
        have hk : k = [] := by
          rcases h.2 with h | h
          · exact h.1
          · omega
        subst hk
        rw [look_leaf b s' x (by omega), look_leaf b s' w (by omega), hsb]
        split <;> rfl
      · next hd =>
        rw [WF] at h
        have hlt : b.length < s.length := by
          apply Decidable.byContradiction
          intro h2
          exact hd (List.drop_eq_nil_of_le (by omega))
        have hw : WFS (n - b.length) k := by
          rcases h.2 with h | h
          · omega
          · exact h.2.2.2
        have hs1 : s = b ++ s.drop b.length := by conv => lhs; rw [← List.take_append_drop b.length s, hf]
        by_cases hp : s'.take b.length = b
        · have hs2 : s' = b ++ s'.drop b.length := by conv => lhs; rw [← List.take_append_drop b.length s', hp]
          have hr : s'.drop b.length ≠ [] := cut_head (by omega)
          have ih := look_putS x (s' := s'.drop b.length) hw (s := s.drop b.length) (by simp; omega) (by simp; omega) (by omega)
          conv => lhs; rw [hs2]
          rw [look_append, if_neg hr, ih]
          by_cases h1 : s'.drop b.length = s.drop b.length
          · rw [if_pos h1, if_pos (by rw [hs2, h1, ← hs1])]
          · rw [if_neg h1, if_neg (fun e => h1 (by rw [e]))]
            conv => rhs; rw [hs2]
            rw [look_append, if_neg hr]
        · rw [look_none hp, look_none hp, if_neg (fun e => hp (by rw [e, hf]))]
theorem look_putS : ∀ {l : List RT} {n : Nat} (x : VT) {s s' : List UInt8}, WFS n l → s.length = n → s'.length = n → 0 < n → lookS (putS l s x) s' = if s' = s then some x else lookS l s'
  | [], n, x, s, s', _, hs, hs', h0 => by
    rw [putS]
    simp only [lookS]
    show (if s.getD 0 0 = s'.getD 0 0 then look (mk s x []) s' else none) = _
    rw [look_leaf _ _ _ (by omega)]
    by_cases h : s' = s
    · subst h; simp
    · rw [if_neg h]; split <;> rfl
  | t :: l, n, x, s, s', h, hs, hs', h0 => by
    rw [WFS] at h
    have hsn : s ≠ [] := fun e => by subst e; simp at hs; omega
    rw [putS]
    split
    · next hf =>
      have hfp := first_put (x := x) h.1 hsn hf
      have e1 : (put t s x).begin.getD 0 0 = t.first := hfp.1
      have e2 : t.begin.getD 0 0 = t.first := rfl
      simp only [lookS]
      rw [e1, e2]
      by_cases h1 : t.first = s'.getD 0 0
      · rw [if_pos h1, if_pos h1]
        exact look_put x h.2.1 hs hs'
      · rw [if_neg h1, if_neg h1, if_neg (fun e => h1 (by rw [e]; exact hf))]
    · next hf =>
      split
      · next hlt =>
        rw [lookS]
        show (if s.getD 0 0 = s'.getD 0 0 then look (mk s x []) s' else lookS (t :: l) s') = _
        by_cases h1 : s.getD 0 0 = s'.getD 0 0
        · rw [if_pos h1, look_leaf _ _ _ (by omega)]
          by_cases h2 : s' = s
          · rw [if_pos h2, if_pos h2]
          · rw [if_neg h2, if_neg h2, lookS_none]
            intro u hu e
            rw [← h1] at e
            rcases List.mem_cons.1 hu with rfl | hu
            · exact hf e.symm
            · have := h.2.2.1 u hu
              rw [UInt8.lt_iff_toNat_lt] at this hlt
              rw [e] at hlt
              omega
        · rw [if_neg h1, if_neg (fun e => h1 (by rw [e]))]
      · next hlt =>
        have ih := look_putS (l := l) x (s := s) (s' := s') h.2.2.2 hs hs' h0
        simp only [lookS]
        rw [ih]
        have e2 : t.begin.getD 0 0 = t.first := rfl
        rw [e2]
        by_cases h1 : t.first = s'.getD 0 0
        · rw [if_pos h1, if_pos h1, if_neg (fun e => hf (by rw [h1, e]))]
        · rw [if_neg h1, if_neg h1]
end
end RT
end Go.Proofs.Ytbjpfnafhhbmaaa.Rad
