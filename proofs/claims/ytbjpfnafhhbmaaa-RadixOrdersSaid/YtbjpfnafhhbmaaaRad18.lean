/- radix: a way down a tree in plain Lean: what is there, what a put and a deletion make of it. -/
import Derived.Test.YtbjpfnafhhbmaaaRad17
namespace Go.Proofs.Ytbjpfnafhhbmaaa.Rad
open Go.Proofs.Ytbjpfnafhhbmaaa
set_option linter.unusedVariables false
set_option linter.unusedSimpArgs false
open Go.RowKit RT
theorem RT.ne_of_lt {a b : UInt8} (h : a < b) : a ≠ b := fun e => by subst e; rw [UInt8.lt_iff_toNat_lt] at h; omega
theorem RT.not_lt_of_lt {a b : UInt8} (h : a < b) : ¬ b < a := fun h' => by rw [UInt8.lt_iff_toNat_lt] at h h'; omega
theorem RT.lookS_get {s : List UInt8} {u : RT} : ∀ {l : List RT} {n i : Nat}, WFS n l → l[i]? = some u → u.first = s.getD 0 0 → lookS l s = look u s
  | [], n, i, _, h, _ => by simp at h
  | t :: l, n, i, hw, h, hf => by
    rw [WFS] at hw
    cases i with
    | zero =>
      obtain rfl : t = u := by simpa using h
      rw [lookS]; exact if_pos hf
    | succ i =>
      have hl : l[i]? = some u := by simpa using h
      have := hw.2.2.1 u (List.mem_of_getElem? hl)
      rw [lookS]; exact (if_neg (fun e => RT.ne_of_lt this (Eq.trans e hf.symm))).trans (RT.lookS_get hw.2.2.2 hl hf)
theorem RT.putS_get {s : List UInt8} {u : RT} (x : VT) : ∀ {l : List RT} {n i : Nat}, WFS n l → l[i]? = some u → u.first = s.getD 0 0 → putS l s x = l.set i (RT.put u s x)
  | [], n, i, _, h, _ => by simp at h
  | t :: l, n, i, hw, h, hf => by
    rw [WFS] at hw
    cases i with
    | zero =>
      obtain rfl : t = u := by simpa using h
      rw [putS, if_pos hf]; rfl
    | succ i =>
      have hl : l[i]? = some u := by simpa using h
      have := hw.2.2.1 u (List.mem_of_getElem? hl)
      rw [putS, ← hf, if_neg (RT.ne_of_lt this), if_neg (RT.not_lt_of_lt this), RT.putS_get x hw.2.2.2 hl hf]; rfl
theorem RT.delS_get {s : List UInt8} {u : RT} : ∀ {l : List RT} {n i : Nat}, WFS n l → l[i]? = some u → u.first = s.getD 0 0 → delS l s = if u.kids.isEmpty then l.eraseIdx i else l.set i (RT.del u s)
  | [], n, i, _, h, _ => by simp at h
  | t :: l, n, i, hw, h, hf => by
    rw [WFS] at hw
    cases i with
    | zero =>
      obtain rfl : t = u := by simpa using h
      rw [delS, if_pos hf]; rfl
    | succ i =>
      have hl : l[i]? = some u := by simpa using h
      have := hw.2.2.1 u (List.mem_of_getElem? hl)
      rw [delS, ← hf, if_neg (RT.ne_of_lt this), RT.delS_get hw.2.2.2 hl hf]
      split <;> rfl
theorem RT.put_append (b s : List UInt8) (w : VT) (k : List RT) (x : VT) (hs : s ≠ []) : RT.put (mk b w k) (b ++ s) x = mk b w (putS k s x) := by
  rw [RT.put, if_neg (alike_append b s)]
  simp [hs]
theorem RT.join_two {b : List UInt8} {w : VT} {l : List RT} (h : 2 ≤ l.length) : join b w l = mk b w l := by
  unfold join
  split
  · simp at h
  · rfl
section
variable {w : World} {ro : Nat → Prop} {p n : Nat} {t : RT} {x : Nat} {own : List Nat} {s : List UInt8} {u : RT} {y : Nat} {o : List Nat} {s' : List UInt8} {ab : List Nat} {c d : Nat} {K : RT → RT}
theorem Way.plain (h : Way w ro p n t x own s u y o s' ab c d K) (hw : WF s.length t) : WF s'.length u ∧ RT.look t s = RT.look u s' ∧ (∀ v, RT.put t s v = K (RT.put u s' v)) ∧ (u.kids ≠ [] → RT.del t s = K (RT.del u s')) ∧ s'.length ≤ s.length ∧ ab.length + s'.length ≤ s.length + 1 ∧ (ab = [] ∨ u.begin ≠ []) := by
  induction h with
  | here h => exact ⟨hw, rfl, fun _ => rfl, fun _ => rfl, Nat.le_refl _, by simp, .inl rfl⟩
  | @down b v k y o s' ab c d K i z oi g u h hk hu hs hf ih =>
    obtain ⟨h1, h2, h3, h4, h5, h6, h7⟩ := ih
    obtain ⟨hi, hu'⟩ := List.getElem?_eq_some_iff.1 hu
    rw [WF] at h1
    have hk2 : 2 ≤ k.length ∧ WFS s'.length k := by
      rcases h1.2 with ⟨rfl, _⟩ | ⟨q1, _, _, q2⟩
      · simp at hi
      · rw [List.length_append, Nat.add_sub_cancel_left] at q2; exact ⟨q1, q2⟩
    have hm := hk2.2.mem u (List.mem_of_getElem? hu)
    have hs0 : 0 < s'.length := List.length_pos_iff.2 hs
    simp only [List.length_append, List.length_cons, List.length_nil] at h5 h6 ⊢
    refine ⟨hm.2, ?_, fun x => ?_, fun hne => ?_, by omega, ?_, .inr hm.1⟩
    · rw [h2, look_append, if_neg hs, RT.lookS_get hk2.2 hu hf]
    · rw [h3, RT.put_append _ _ _ _ _ hs, RT.putS_get x hk2.2 hu hf]
    · rw [h4 (fun e => by rw [show (mk b v k).kids = k from rfl] at e; rw [e] at hi; simp at hi), RT.del]
      rw [show (b ++ s').drop b.length = s' by simp, RT.delS_get hk2.2 hu hf, if_neg (by simpa using hne), RT.join_two (by simpa using hk2.1)]
    · rcases h7 with rfl | h7
      · simp; omega
      · have : 0 < b.length := List.length_pos_iff.2 h7
        omega
end
end Go.Proofs.Ytbjpfnafhhbmaaa.Rad
