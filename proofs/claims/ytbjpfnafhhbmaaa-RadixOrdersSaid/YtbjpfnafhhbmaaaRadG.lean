/- radix: RadixOrders' walk, first part: what it calls. -/
import Derived.Test.YtbjpfnafhhbmaaaRadE
namespace Go.Proofs.Ytbjpfnafhhbmaaa.Rad
open Go.Proofs.Ytbjpfnafhhbmaaa
set_option linter.unusedVariables false
set_option linter.unusedSimpArgs false
open Go.RowKit RT
def idc (x : Nat × Nat) : List Value := [.int .u64 x.1, .int .u64 x.2]
theorem flat2 : ∀ (A : List (Nat × Nat)) (i : Nat) (h : i < A.length) (j : Nat), j < 2 → (A.flatMap idc).getD (i * 2 + j) undef = (idc A[i]).getD j undef
  | p :: A, 0, _, j, hj => by
    simp only [List.flatMap_cons, List.getD, Nat.zero_mul, Nat.zero_add, List.getElem_cons_zero]
    rw [List.getElem?_append_left (by simp [idc]; exact hj)]
  | p :: A, i + 1, h, j, hj => by
    have := flat2 A i (by simpa using h) j hj
    simp only [List.flatMap_cons, List.getD, List.getElem_cons_succ] at this ⊢
    rw [List.getElem?_append_right (by simp [idc]; omega), show (i + 1) * 2 + j - (idc p).length = i * 2 + j by simp [idc]; omega]
    exact this
theorem row_of_slice {w : World} {B : Nat} {a : Option Addr} {n c : Nat} {A : List (Nat × Nat)} (h : SliceN w B 25 2 (.slice a n c) n (A.flatMap idc)) (hn : A.length = n) (hb : ∀ x ∈ A, x.1 < 18446744073709551616 ∧ x.2 < 18446744073709551616) : IdRow w a n c A := by
  obtain ⟨a', c', he, h1, _⟩ := h.form
  cases he
  refine ⟨hn, h1, hb, ?_⟩
  rcases Nat.eq_zero_or_pos n with h0 | h0
  · exact .inl h0
  · obtain ⟨g, cap, cur, he, _⟩ := h.2.resolve_left (by omega)
    cases he
    refine .inr ⟨g, 0, rfl, fun i hi => ?_⟩
    have e0 := h.cell rfl (i := i * 2) (by omega)
    have e1 := h.cell rfl (i := i * 2 + 1) (by omega)
    have f0 := flat2 A i (by omega) 0 (by omega)
    have f1 := flat2 A i (by omega) 1 (by omega)
    rw [Nat.add_zero] at f0
    rw [f0] at e0
    rw [f1] at e1
    rw [Nat.zero_add, e0, e1]
    simp [idc, List.getD, show i < A.length by omega]
theorem idsO_lt {T : Option RT} (h : WFO T) : ∀ x ∈ idsO T, x.1 < 18446744073709551616 ∧ x.2 < 18446744073709551616 := by
  intro x hx
  obtain ⟨s, hs, rfl⟩ := List.mem_map.1 hx
  exact idOf_lt ((mem_keys h s).1 hs).1
theorem all_ids {w : World} {p ms seq n : Nat} {G : Nat → Prop} {T : Option RT} (h : TreeF w p G T n) (h1 : ms < 18446744073709551616) (h2 : seq < 18446744073709551616) (hnodes : nodesO T ≤ 1000000) :
    Calls Try.prog 12 #[.pointer (some ⟨p, 0, none⟩), .agg #[.int .u64 ms, .int .u64 seq]] w fun e w' => ∃ a k c, e = .returned (.slice a k c) ∧ k = ((idsO T).filter fun x => !lessN x (ms, seq)).length ∧ IdRow w' a k c ((idsO T).filter fun x => !lessN x (ms, seq)) ∧ Below w.heap.size w w' := by
  refine (lall h h1 h2 hnodes).mono ?_
  rintro e w' ⟨v, rfl, hs, hb⟩
  rw [told_ids, told_len, from_ids h.wf h1 h2] at hs
  obtain ⟨a, c, rfl, _, _⟩ := hs.form
  exact ⟨a, _, c, rfl, rfl, row_of_slice hs rfl fun x hx => idsO_lt h.wf x (List.mem_filter.1 hx).1, hb⟩
theorem ids_zero (T : Option RT) : ((idsO T).filter fun x => !lessN x (0, 0)) = idsO T := List.filter_eq_self.2 fun x _ => by simp [lessN]
set_option maxHeartbeats 800000 in
set_option maxRecDepth 100000 in
theorem less_any (a b c d : Nat) (w : World) : Calls Try.prog 13 #[.agg #[.int .u64 a, .int .u64 b], .agg #[.int .u64 c, .int .u64 d]] w fun e w' => e = .returned (.bool (lessN (a, b) (c, d))) ∧ Below w.heap.size w w' := by
  have HL := Lib.hid (show lessN (a, b) (c, d) = (decide (a < c) || (decide (a = c) && decide (b < d))) by simp [lessN])
  rcases Nat.lt_or_ge a c with h1 | h1
  · have e1 := decide_eq_true h1
    have hr : lessN (a, b) (c, d) = true := by rw [HL.out, e1]; rfl
    rw [hr]
    clear h1 hr HL
    go_enter Try.func13, Try.ntmps13
    go_wp2_with fail
    go_ret
    exact ⟨rfl, ((Below.refl _ _).alloc (Nat.le_refl _) _).alloc (by simp) _⟩
  · have e1 : decide (a < c) = false := by simp; omega
    rcases Decidable.em (a = c) with h2 | h2
    · subst h2
      obtain ⟨v, hv⟩ : ∃ v, decide (b < d) = v := ⟨_, rfl⟩
      have hr : lessN (a, b) (a, d) = v := by rw [HL.out, hv]; simp
      rw [hr]
      clear h1 hr HL
      go_enter Try.func13, Try.ntmps13
      go_wp2_with fail
      go_ret
      exact ⟨rfl, ((Below.refl _ _).alloc (Nat.le_refl _) _).alloc (by simp) _⟩
    · have e2 : ((a : Int) == (c : Int)) = false := by simp; omega
      have hr : lessN (a, b) (c, d) = false := by rw [HL.out, e1]; simp [h2]
      rw [hr]
      clear h1 hr HL h2
      go_enter Try.func13, Try.ntmps13
      go_wp2_with fail
      go_ret
      exact ⟨rfl, ((Below.refl _ _).alloc (Nat.le_refl _) _).alloc (by simp) _⟩
theorem fillK_some (L : List (Nat × Nat)) (s : List UInt8) (hs : s.length = 16) : ∀ k, (lookO (fillK L k) s).isSome = true ↔ ∃ i, i < k ∧ idBytes (L.getD i (0, 0)).1 (L.getD i (0, 0)).2 = s
  | 0 => by simp [fillK, lookO]
  | k + 1 => by
    rw [fillK, look_putO (fillK_wf L k) (idBytes_length _ _) hs]
    split
    · next e => exact ⟨fun _ => ⟨k, by omega, e.symm⟩, fun _ => rfl⟩
    · next e =>
      rw [fillK_some L s hs k]
      constructor
      · rintro ⟨i, h1, h2⟩; exact ⟨i, by omega, h2⟩
      · rintro ⟨i, h1, h2⟩
        refine ⟨i, ?_, h2⟩
        rcases Nat.lt_or_ge i k with h | h
        · exact h
        · obtain rfl : i = k := by omega
          exact absurd h2.symm e
theorem fillK_last (L : List (Nat × Nat)) (hb : ∀ x ∈ L, x.1 < 18446744073709551616 ∧ x.2 < 18446744073709551616) {x : Nat × Nat} {last : Nat} (hx : L.getD last (0, 0) = x) : ∀ k, k ≤ L.length → last < k → (∀ j, last < j → j < k → L.getD j (0, 0) ≠ x) → lookO (fillK L k) (idBytes x.1 x.2) = some (last : Int)
  | 0, _, h, _ => by omega
  | k + 1, hk, h, hn => by
    have hg : ∀ j, j < L.length → (L.getD j (0, 0)).1 < 18446744073709551616 ∧ (L.getD j (0, 0)).2 < 18446744073709551616 := fun j hj => hb _ (by
      rw [show L.getD j (0, 0) = L[j] by simp [List.getD, hj]]; exact List.getElem_mem _)
    rw [fillK, look_putO (fillK_wf L k) (idBytes_length _ _) (idBytes_length _ _)]
    rcases Nat.lt_or_ge last k with h1 | h1
    · have hne := hn k h1 (by omega)
      rw [if_neg, fillK_last L hb hx k (by omega) h1 fun j h2 h3 => hn j h2 (by omega)]
      intro e
      have hxl := hg last (by omega)
      rw [hx] at hxl
      have hkl := hg k (by omega)
      have := idBytes_inj hxl.1 hxl.2 hkl.1 hkl.2 e
      exact hne (Prod.ext this.1.symm this.2.symm)
    · obtain rfl : last = k := by omega
      rw [hx, if_pos rfl]
theorem turned_same {L : List (Nat × Nat)} {len : Nat} (hl : L.length = len) (s : List UInt8) (hs : s.length = 16) : (lookO (fillK L len) s).isSome = (lookO (fillK L.reverse len) s).isSome := by
  rw [Bool.eq_iff_iff, fillK_some L s hs, fillK_some L.reverse s hs]
  have hg : ∀ i, i < len → L.reverse.getD i (0, 0) = L.getD (len - 1 - i) (0, 0) := fun i hi => by
    simp only [List.getD]
    rw [List.getElem?_reverse (by omega), hl]
  constructor
  · rintro ⟨i, h1, h2⟩
    refine ⟨len - 1 - i, by omega, ?_⟩
    rw [hg _ (by omega), show len - 1 - (len - 1 - i) = i by omega]; exact h2
  · rintro ⟨i, h1, h2⟩
    refine ⟨len - 1 - i, by omega, ?_⟩
    rw [hg i h1] at h2; exact h2
/-- Where the things from one on stand among those that are told. -/
theorem filter_at {A : List (Nat × Nat)} {p : Nat × Nat → Bool} : ∀ {i : Nat} (h : i < A.length), p A[i] = true → ((A.take i).filter p).length < (A.filter p).length ∧ (A.filter p).getD ((A.take i).filter p).length (0, 0) = A[i] := by
  intro i h hp
  have e : A.filter p = (A.take i).filter p ++ (A[i] :: (A.drop (i + 1)).filter p) := by
    conv => lhs; rw [← List.take_append_drop i A, List.drop_eq_getElem_cons h, List.filter_append, List.filter_cons_of_pos hp]
  rw [e]
  refine ⟨by simp, ?_⟩
  simp [List.getD]
end Go.Proofs.Ytbjpfnafhhbmaaa.Rad
