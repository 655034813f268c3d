/- The law IntsOrders. -/
import Derived.Test.YtncdckakcmoejaaInts10
import Derived.Test.YtncdckakcmoejaaLoc
namespace Go.Proofs.Ytncdckakcmoejaa
set_option linter.unusedVariables false
set_option linter.unusedSimpArgs false
open Go.RowKit
theorem sorted_ext : ∀ {L M : List Int}, L.Pairwise (· < ·) → M.Pairwise (· < ·) → (∀ y, y ∈ L ↔ y ∈ M) → L = M
  | [], [], _, _, _ => rfl
  | [], y :: M, _, _, h => by have := (h y).2 (by simp); cases this
  | x :: L, [], _, _, h => by have := (h x).1 (by simp); cases this
  | x :: L, y :: M, hL, hM, h => by
    have hL' := List.pairwise_cons.1 hL
    have hM' := List.pairwise_cons.1 hM
    have hxy : x = y := by
      rcases List.mem_cons.1 ((h x).1 (by simp)) with e | e
      · exact e
      · rcases List.mem_cons.1 ((h y).2 (by simp)) with e' | e'
        · exact e'.symm
        · have := hM'.1 x e; have := hL'.1 y e'; omega
    subst hxy
    congr 1
    refine sorted_ext hL'.2 hM'.2 fun y => ⟨fun hy => ?_, fun hy => ?_⟩
    · rcases List.mem_cons.1 ((h y).1 (by simp [hy])) with e | e
      · subst e; have := hL'.1 _ hy; omega
      · exact e
    · rcases List.mem_cons.1 ((h y).2 (by simp [hy])) with e | e
      · subst e; have := hM'.1 _ hy; omega
      · exact e
theorem widthAll_le (K : Nat) : ∀ (l : List Int) (W : Nat), widthAll W l ≤ K ↔ W ≤ K ∧ ∀ x ∈ l, wantsN x ≤ K
  | [], W => by simp [widthAll]
  | x :: l, W => by
    simp only [widthAll, widthAll_le K l, List.mem_cons, forall_eq_or_imp, Nat.max_le]
    exact ⟨fun ⟨⟨a, b⟩, c⟩ => ⟨a, b, c⟩, fun ⟨a, b, c⟩ => ⟨⟨a, b⟩, c⟩⟩
theorem widthAll_ext {l m : List Int} (W : Nat) (h : ∀ y, y ∈ l ↔ y ∈ m) : widthAll W l = widthAll W m := by
  apply Nat.le_antisymm
  · rw [widthAll_le]
    have := (widthAll_le (widthAll W m) m W).1 (Nat.le_refl _)
    exact ⟨this.1, fun x hx => this.2 x ((h x).1 hx)⟩
  · rw [widthAll_le]
    have := (widthAll_le (widthAll W l) l W).1 (Nat.le_refl _)
    exact ⟨this.1, fun x hx => this.2 x ((h x).2 hx)⟩
/-- The list, begun elsewhere and backwards. -/
def turned (zs : List Int) (t k : Nat) : List Int := (List.range k).map fun i => zs.getD ((zs.length - 1 - i + t) % zs.length) 0
theorem turned_succ (zs : List Int) (t k : Nat) : turned zs t (k + 1) = turned zs t k ++ [zs.getD ((zs.length - 1 - k + t) % zs.length) 0] := by
  simp [turned, List.range_succ]
theorem turned_length (zs : List Int) (t k : Nat) : (turned zs t k).length = k := by simp [turned]
theorem mem_turned (zs : List Int) (t : Nat) (y : Int) : y ∈ turned zs t zs.length ↔ y ∈ zs := by
  unfold turned
  rw [List.mem_map]
  constructor
  · rintro ⟨i, hi, rfl⟩
    have hi' := List.mem_range.1 hi
    have hlt := Nat.mod_lt (zs.length - 1 - i + t) (show 0 < zs.length by omega)
    simp [List.getD, hlt]
  · intro hy
    obtain ⟨j, hj, rfl⟩ := List.getElem_of_mem hy
    obtain ⟨n, hn⟩ : ∃ n, n = zs.length := ⟨_, rfl⟩
    have hdm := Nat.div_add_mod (n - 1 + t + (n - j)) n
    have hlt := Nat.mod_lt (n - 1 + t + (n - j)) (show 0 < n by omega)
    obtain ⟨i, hi⟩ : ∃ i, i = (n - 1 + t + (n - j)) % n := ⟨_, rfl⟩
    obtain ⟨q, hq⟩ : ∃ q, q = n * ((n - 1 + t + (n - j)) / n) := ⟨_, rfl⟩
    have hq0 : q % n = 0 := by rw [hq]; exact Nat.mul_mod_right _ _
    rw [← hq, ← hi] at hdm
    rw [← hi] at hlt
    refine ⟨i, List.mem_range.2 (by omega), ?_⟩
    rw [← hn]
    have h1 : (n - 1 - i + t + n) = q + j := by omega
    have h2 : (n - 1 - i + t) % n = j := by
      rw [← Nat.add_mod_right (n - 1 - i + t) n, h1, Nat.add_mod, hq0, Nat.zero_add, Nat.mod_mod, Nat.mod_eq_of_lt (by omega)]
    rw [h2]
    simp [List.getD, hj]
theorem orders_same (zs : List Int) (t : Nat) : insAll [] (turned zs t zs.length) = insAll [] zs ∧ widthAll 2 (turned zs t zs.length) = widthAll 2 zs := by
  have hm := mem_turned zs t
  refine ⟨sorted_ext (insAll_sorted _ _ List.Pairwise.nil) (insAll_sorted _ _ List.Pairwise.nil) fun y => ?_, widthAll_ext 2 hm⟩
  rw [mem_insAll, mem_insAll, hm]
end Go.Proofs.Ytncdckakcmoejaa
