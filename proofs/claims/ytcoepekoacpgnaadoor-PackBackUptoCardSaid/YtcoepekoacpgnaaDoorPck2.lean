/- pack: sizes that are read from behind; where the entries stand. -/
import Derived.Test.YtcoepekoacpgnaaDoorPck1
namespace Go.Proofs.YtcoepekoacpgnaaDoor
set_option linter.unusedVariables false
set_option linter.unusedSimpArgs false
open Go.RowKit
/-- The low groups of a size, each with its mark. -/
def flB : Nat → Nat → List UInt8
  | 0, _ => []
  | k + 1, n => UInt8.ofNat (128 + n / 128 ^ k % 128) :: flB k n
@[simp] theorem flB_length : ∀ k n, (flB k n).length = k
  | 0, _ => rfl
  | k + 1, n => by simp [flB, flB_length k]
theorem flB_snoc : ∀ k n, flB (k + 1) n = flB k (n / 128) ++ [UInt8.ofNat (128 + n % 128)]
  | 0, n => by simp [flB]
  | k + 1, n => by
    rw [flB, flB_snoc k n, flB, List.cons_append, Nat.div_div_eq_div_mul, Nat.pow_succ, Nat.mul_comm 128]
theorem backF_eq : ∀ (f k n : Nat), n < 128 ^ (k + 1) → (k = 0 ∨ 128 ^ k ≤ n) → k < f → backF f n = UInt8.ofNat (n / 128 ^ k) :: flB k n
  | 0, k, n, _, _, h => by omega
  | f + 1, k, n, h1, h2, h3 => by
    unfold backF
    by_cases hn : n < 128
    · rw [if_pos hn]
      have : k = 0 := by
        rcases h2 with h | h
        · exact h
        · cases k with
          | zero => rfl
          | succ k =>
            have : 128 ^ 1 ≤ 128 ^ (k + 1) := Nat.pow_le_pow_right (by omega) (by omega)
            omega
      subst this
      simp [flB]
    · rw [if_neg hn]
      cases k with
      | zero => simp at h1; omega
      | succ k =>
        rw [backF_eq f k (n / 128) (by rw [Nat.pow_succ] at h1; omega) (by
          rcases h2 with h | h
          · omega
          · rw [Nat.pow_succ] at h; exact .inr (by omega)) (by omega), List.cons_append, ← flB_snoc, Nat.div_div_eq_div_mul, Nat.pow_succ, Nat.mul_comm 128]
theorem groups (n : Nat) (h : n < 34359738368) : ∃ k, k < 5 ∧ n < 128 ^ (k + 1) ∧ (k = 0 ∨ 128 ^ k ≤ n) := by
  by_cases h1 : n < 128
  · exact ⟨0, by omega, by omega, .inl rfl⟩
  · by_cases h2 : n < 16384
    · exact ⟨1, by omega, by omega, .inr (by omega)⟩
    · by_cases h3 : n < 2097152
      · exact ⟨2, by omega, by omega, .inr (by omega)⟩
      · by_cases h4 : n < 268435456
        · exact ⟨3, by omega, by omega, .inr (by omega)⟩
        · exact ⟨4, by omega, by omega, .inr (by omega)⟩
theorem backL_eq {n k : Nat} (h1 : n < 128 ^ (k + 1)) (h2 : k = 0 ∨ 128 ^ k ≤ n) (h3 : k < 5) : backL n = UInt8.ofNat (n / 128 ^ k) :: flB k n := backF_eq 5 k n h1 h2 h3
theorem backL_length (n : Nat) (h : n < 34359738368) : 1 ≤ (backL n).length ∧ (backL n).length ≤ 5 := by
  obtain ⟨k, h1, h2, h3⟩ := groups n h
  rw [backL_eq h2 h3 h1]
  simp; omega
theorem flB_get : ∀ (k n i : Nat), i < k → (flB k n)[k - 1 - i]? = some (UInt8.ofNat (128 + n / 128 ^ i % 128))
  | 0, n, i, h => by omega
  | k + 1, n, i, h => by
    unfold flB
    by_cases hi : i = k
    · subst hi; simp
    · rw [show k + 1 - 1 - i = (k - 1 - i) + 1 by omega, List.getElem?_cons_succ]
      exact flB_get k n i (by omega)
/-- The byte of a size that is the i-th from behind. -/
theorem back_get {n k : Nat} (h1 : n < 128 ^ (k + 1)) (h2 : k = 0 ∨ 128 ^ k ≤ n) (h3 : k < 5) {i : Nat} (hi : i ≤ k) : (backL n)[k - i]? = some (UInt8.ofNat (n / 128 ^ i % 128 + if i = k then 0 else 128)) := by
  rw [backL_eq h1 h2 h3]
  by_cases h : i = k
  · subst h
    rw [Nat.sub_self, List.getElem?_cons_zero, if_pos rfl, Nat.add_zero, Nat.mod_eq_of_lt]
    rw [Nat.pow_succ] at h1
    exact Nat.div_lt_of_lt_mul h1
  · rw [show k - i = (k - 1 - i) + 1 by omega, List.getElem?_cons_succ, flB_get k n i (by omega), if_neg h, Nat.add_comm]
/-! Where the entries stand. -/
theorem bodyL_nil : bodyL [] = [] := rfl
theorem bodyL_cons (s : ByteArray) (L : List ByteArray) : bodyL (s :: L) = entL s ++ bodyL L := by simp [bodyL]
theorem bodyL_append (L M : List ByteArray) : bodyL (L ++ M) = bodyL L ++ bodyL M := by simp [bodyL]
def offL (L : List ByteArray) (i : Nat) : Nat := 8 + (bodyL (L.take i)).length
theorem offL_zero (L : List ByteArray) : offL L 0 = 8 := by simp [offL, bodyL_nil]
theorem take_succ_get {α : Type} {L : List α} {i : Nat} (h : i < L.length) : L.take (i + 1) = L.take i ++ [L[i]] := by
  rw [List.take_add_one, List.getElem?_eq_getElem h]; rfl
theorem offL_succ {L : List ByteArray} {i : Nat} (h : i < L.length) : offL L (i + 1) = offL L i + (entL L[i]).length := by
  unfold offL
  rw [take_succ_get h, bodyL_append, List.length_append, bodyL_cons, bodyL_nil, List.append_nil]; omega
theorem offL_all {L : List ByteArray} {i : Nat} (h : L.length ≤ i) : offL L i = sizeP L - 1 := by
  unfold offL sizeP; rw [List.take_of_length_le h]; omega
theorem offL_mono {L : List ByteArray} {i j : Nat} (h : i ≤ j) : offL L i ≤ offL L j := by
  unfold offL
  have : L.take j = L.take i ++ (L.take j).drop i := by
    have := List.take_append_drop i (L.take j)
    rw [List.take_take, Nat.min_eq_left h] at this
    exact this.symm
  rw [this, bodyL_append, List.length_append]; omega
theorem offL_lt (L : List ByteArray) (i : Nat) : 8 ≤ offL L i ∧ offL L i + 1 ≤ sizeP L := by
  refine ⟨by unfold offL; omega, ?_⟩
  by_cases h : i ≤ L.length
  · have h1 := offL_mono (L := L) h
    have h2 := offL_all (L := L) (Nat.le_refl _)
    have : 9 ≤ sizeP L := by unfold sizeP; omega
    omega
  · have h2 := offL_all (L := L) (i := i) (by omega)
    have : 9 ≤ sizeP L := by unfold sizeP; omega
    omega
theorem packL_length (L : List ByteArray) : (packL L).length = sizeP L := by simp [packL, sizeP]; omega
theorem packL_drop (L : List ByteArray) (i : Nat) : (packL L).drop (offL L i) = bodyL (L.drop i) ++ [255] := by
  have h : bodyL L = bodyL (L.take i) ++ bodyL (L.drop i) := by rw [← bodyL_append, List.take_append_drop]
  unfold packL offL
  conv => lhs; rw [h]
  rw [show leN 4 (sizeP L) ++ (leN 4 L.length ++ ((bodyL (L.take i) ++ bodyL (L.drop i)) ++ [255])) = (leN 4 (sizeP L) ++ (leN 4 L.length ++ bodyL (L.take i))) ++ (bodyL (L.drop i) ++ [255]) by simp]
  exact List.drop_left' (by simp; omega)
theorem packL_take (L : List ByteArray) (i : Nat) : (packL L).take (offL L i) = leN 4 (sizeP L) ++ (leN 4 L.length ++ bodyL (L.take i)) := by
  have h : bodyL L = bodyL (L.take i) ++ bodyL (L.drop i) := by rw [← bodyL_append, List.take_append_drop]
  unfold packL offL
  conv => lhs; rw [h]
  rw [show leN 4 (sizeP L) ++ (leN 4 L.length ++ ((bodyL (L.take i) ++ bodyL (L.drop i)) ++ [255])) = (leN 4 (sizeP L) ++ (leN 4 L.length ++ bodyL (L.take i))) ++ (bodyL (L.drop i) ++ [255]) by simp]
  exact List.take_left' (by simp; omega)
theorem packL_head (L : List ByteArray) : (packL L).take 4 = leN 4 (sizeP L) := by
  unfold packL; exact List.take_left' (by simp)
theorem packL_many (L : List ByteArray) : ((packL L).drop 4).take 4 = leN 4 L.length := by
  unfold packL; rw [List.drop_left' (by simp)]; exact List.take_left' (by simp)
theorem read_pack {L : List ByteArray} {i : Nat} (h : i < L.length) (hs : L[i].size < 16777216) : readL ((packL L).drop (offL L i)) = some (L[i], (headL L[i]).length) := by
  rw [packL_drop, List.drop_eq_getElem_cons h, bodyL_cons, entL, List.append_assoc, List.append_assoc]
  exact read_head _ hs _
theorem entL_length (s : ByteArray) (hs : s.size < 16777216) : 2 ≤ (entL s).length ∧ (entL s).length ≤ s.size + 14 := by
  have h1 := headL_length s
  have h2 := backL_length (headL s).length (by omega)
  unfold entL; rw [List.length_append]; omega
/-! Equal bytes, equal texts. -/
theorem body_inj : ∀ {L M : List ByteArray} {r t : List UInt8}, L.length = M.length → (∀ s ∈ L, s.size < 16777216) → (∀ s ∈ M, s.size < 16777216) → bodyL L ++ r = bodyL M ++ t → L = M
  | [], [], _, _, _, _, _, _ => rfl
  | s :: L, u :: M, r, t, hl, h1, h2, h => by
    rw [bodyL_cons, bodyL_cons, entL, entL, List.append_assoc, List.append_assoc, List.append_assoc, List.append_assoc] at h
    have e1 := read_head s (h1 s (by simp)) (backL (headL s).length ++ (bodyL L ++ r))
    have e2 := read_head u (h2 u (by simp)) (backL (headL u).length ++ (bodyL M ++ t))
    rw [h, e2] at e1
    cases e1
    have h := List.append_cancel_left (List.append_cancel_left h)
    rw [body_inj (by simpa using hl) (fun x hx => h1 x (by simp [hx])) (fun x hx => h2 x (by simp [hx])) h]
  | [], _ :: _, _, _, h, _, _, _ => by simp at h
  | _ :: _, [], _, _, h, _, _, _ => by simp at h
theorem pack_inj {L M : List ByteArray} (h1 : ∀ s ∈ L, s.size < 16777216) (h2 : ∀ s ∈ M, s.size < 16777216) (hL : L.length < 4294967296) (hM : M.length < 4294967296) (h : packL L = packL M) : L = M := by
  have e := congrArg (fun l => (l.drop 4).take 4) h
  simp only [packL_many] at e
  have e' := congrArg lowN e
  rw [lowN_leN, lowN_leN] at e'
  have hl : L.length = M.length := by omega
  unfold packL at h
  have h := List.append_inj_right h (by simp)
  have h := List.append_inj_right h (by simp)
  exact body_inj hl h1 h2 h
theorem lowN_append : ∀ (a b : List UInt8), lowN (a ++ b) = lowN a + 256 ^ a.length * lowN b
  | [], b => by simp [lowN]
  | c :: a, b => by
    simp only [List.cons_append, lowN, lowN_append a b, List.length_cons, Nat.pow_succ]
    rw [Nat.mul_add, Nat.add_assoc, Nat.mul_comm (256 ^ a.length) 256, Nat.mul_assoc]
theorem pack_prefix {L M : List ByteArray} {n : Nat} (hn : n = min (sizeP L) (sizeP M)) (hL : sizeP L < 4294967296) (hM : sizeP M < 4294967296) (h : (packL L).take n = (packL M).take n) : packL L = packL M := by
  have h4 : 4 ≤ n := by unfold sizeP at hn; omega
  have e := congrArg (fun l => lowN (l.take 4)) h
  simp only [List.take_take, Nat.min_eq_left h4, packL_head, lowN_leN] at e
  have e' : sizeP L = sizeP M := by omega
  rw [List.take_of_length_le (by rw [packL_length]; omega), List.take_of_length_le (by rw [packL_length]; omega)] at h
  exact h
end Go.Proofs.YtcoepekoacpgnaaDoor
