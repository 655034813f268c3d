/- radix: a tree behind a deletion is a tree. -/
import Derived.Test.YtbjpfnafhhbmaaaRad8
namespace Go.Proofs.Ytbjpfnafhhbmaaa.Rad
open Go.Proofs.Ytbjpfnafhhbmaaa
set_option linter.unusedVariables false
set_option linter.unusedSimpArgs false
namespace RT
theorem delS_len (s : List UInt8) : ∀ l : List RT, l.length ≤ (delS l s).length + 1
  | [] => by simp
  | t :: l => by
    rw [delS]
    split
    · split
      · simp
      · simp
    · have := delS_len s l
      simp only [List.length_cons]; omega
theorem WF_join {b : List UInt8} {w : VT} {l : List RT} {n : Nat} (hb : b.length < n) (hw : w = zT) (h : WFS (n - b.length) l) (hl : 0 < l.length) : WF n (join b w l) := by
  unfold join
  split
  · next z =>
    rw [WFS] at h
    cases z with
    | mk c v k =>
      have hz := h.2.1
      rw [WF] at hz
      show WF n (mk (b ++ c) v k)
      rw [WF]
      refine ⟨by simp; omega, hz.2.imp (fun h => ⟨h.1, by simp; omega⟩) fun h => ⟨h.1, h.2.1, by simp; omega, ?_⟩⟩
      rw [show n - (b ++ c).length = n - b.length - c.length by simp; omega]
      exact h.2.2.2
  · next hne =>
    rw [WF]
    refine ⟨by omega, .inr ⟨?_, hw, hb, h⟩⟩
    match l, hne, hl with
    | [z], hne, _ => exact absurd rfl (hne z)
    | _ :: _ :: _, _, _ => simp
mutual
theorem WF_del : ∀ {t : RT} {n : Nat} {s : List UInt8}, WF n t → t.kids ≠ [] → s.length = n → (look t s).isSome = true → WF n (del t s)
  | mk b w k, n, s, h, hk, hs, hl => by
    rw [WF] at h
    have hw : 2 ≤ k.length ∧ w = zT ∧ b.length < n ∧ WFS (n - b.length) k := by
      rcases h.2 with h | h
      · exact absurd h.1 hk
      · exact h
    have hf : s.take b.length = b := look_pre hl
    have hs1 : s = b ++ s.drop b.length := by conv => lhs; rw [← List.take_append_drop b.length s, hf]
    have hr0 : s.drop b.length ≠ [] := cut_head (by omega)
    rw [hs1, look_append, if_neg hr0] at hl
    rw [del]
    have := delS_len (s.drop b.length) k
    exact WF_join hw.2.2.1 hw.2.1 (WF_delS hw.2.2.2 (by simp; omega) hl) (by omega)
theorem WF_delS : ∀ {l : List RT} {n : Nat} {s : List UInt8}, WFS n l → s.length = n → (lookS l s).isSome = true → WFS n (delS l s)
  | [], n, s, h, _, hl => by simp [lookS] at hl
  | t :: l, n, s, h, hs, hl => by
    rw [WFS] at h
    have e2 : t.begin.getD 0 0 = t.first := rfl
    rw [delS]
    split
    · next hf =>
      rw [lookS, e2, if_pos hf] at hl
      split
      · exact h.2.2.2
      · next hk =>
        have hk' : t.kids ≠ [] := fun e => hk (by rw [e]; rfl)
        have hfd := first_del (s := s) h.1
        rw [WFS]
        exact ⟨hfd.2, WF_del h.2.1 hk' hs hl, fun u hu => by rw [hfd.1]; exact h.2.2.1 u hu, h.2.2.2⟩
    · next hf =>
      rw [lookS, e2, if_neg hf] at hl
      rw [WFS]
      refine ⟨h.1, h.2.1, fun u hu => ?_, WF_delS h.2.2.2 hs hl⟩
      obtain ⟨_, t', h1, h2⟩ := delS_mem h.2.2.2 u hu
      rw [h2]; exact h.2.2.1 t' h1
end
/-- Putting what was not there and deleting it again. -/
theorem del_put {t : RT} {n : Nat} {s : List UInt8} (x : VT) (h : WF n t) (hs : s.length = n) (hn : look t s = none) (hk : (put t s x).kids ≠ []) : del (put t s x) s = t := by
  have hp := WF_put x h hs
  have hl : (look (put t s x) s).isSome = true := by rw [look_put x h hs hs, if_pos rfl]; rfl
  refine canon (WF_del hp hk hs hl) h fun s' hs' => ?_
  rw [look_del hp hk hs hs' hl, look_put x h hs hs']
  by_cases e : s' = s
  · rw [if_pos e, e, hn]
  · rw [if_neg e, if_neg e]
end RT
end Go.Proofs.Ytbjpfnafhhbmaaa.Rad
