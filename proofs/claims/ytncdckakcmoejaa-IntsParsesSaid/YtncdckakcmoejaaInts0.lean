/- Plain words of the layer ints: the bytes of a set of whole numbers. -/
import Derived.Test.YtncdckakcmoejaaBase
namespace Go.Proofs.Ytncdckakcmoejaa
set_option linter.unusedVariables false
set_option linter.unusedSimpArgs false
open Go.RowKit
/-- A number in so many bytes. -/
def encW (W : Nat) (n : Int) : List UInt8 := leN W (n % 18446744073709551616).toNat
@[simp] theorem encW_length (W : Nat) (n : Int) : (encW W n).length = W := by simp [encW]
def intsBytes (L : List Int) (W : Nat) : List UInt8 := leN 4 W ++ leN 4 L.length ++ L.flatMap (encW W)
theorem flat_length (L : List Int) (W : Nat) : (L.flatMap (encW W)).length = L.length * W := by
  induction L with
  | nil => simp
  | cons x L ih => simp [ih, Nat.succ_mul, Nat.add_comm]
theorem intsBytes_length (L : List Int) (W : Nat) : (intsBytes L W).length = 8 + L.length * W := by
  simp only [intsBytes, List.length_append, leN_length, flat_length]
/-- It fits. -/
def fitsW (W : Nat) (x : Int) : Prop := (W = 2 ∧ -32768 ≤ x ∧ x ≤ 32767) ∨ (W = 4 ∧ -2147483648 ≤ x ∧ x ≤ 2147483647) ∨ (W = 8 ∧ -9223372036854775808 ≤ x ∧ x ≤ 9223372036854775807)
/-- The number read of so many bytes. -/
def decW (W u : Nat) : Int := if W = 2 then IntKind.i16.wrap u else if W = 4 then IntKind.i32.wrap u else IntKind.i64.wrap u
theorem dec_enc (W : Nat) (x : Int) (h : fitsW W x) : decW W (lowN (encW W x)) = x := by
  unfold encW
  rw [lowN_leN]
  rcases h with ⟨rfl, h1, h2⟩ | ⟨rfl, h1, h2⟩ | ⟨rfl, h1, h2⟩
  · simp [decW, IntKind.wrap, IntKind.bits, IntKind.signed]; omega
  · simp [decW, IntKind.wrap, IntKind.bits, IntKind.signed]; omega
  · simp [decW, IntKind.wrap, IntKind.bits, IntKind.signed]; omega
theorem intsBytes_head (L : List Int) (W : Nat) : (intsBytes L W).take 4 = leN 4 W := by
  rw [intsBytes, List.append_assoc, List.take_left' (by simp)]
theorem intsBytes_count (L : List Int) (W : Nat) : ((intsBytes L W).drop 4).take 4 = leN 4 L.length := by
  rw [intsBytes, List.append_assoc, List.drop_left' (by simp), List.take_left' (by simp)]
theorem flat_at (W : Nat) : ∀ (L : List Int) (i : Nat) (h : i < L.length), ((L.flatMap (encW W)).drop (i * W)).take W = encW W L[i]
  | [], i, h => by simp at h
  | x :: L, 0, h => by simp [List.take_left']
  | x :: L, i + 1, h => by
    simp only [List.flatMap_cons, List.getElem_cons_succ]
    rw [show (i + 1) * W = W + i * W by rw [Nat.succ_mul]; omega, ← List.drop_drop, List.drop_left' (by simp)]
    exact flat_at W L i (by simpa using h)
theorem intsBytes_at (L : List Int) (W i : Nat) (h : i < L.length) : ((intsBytes L W).drop (8 + i * W)).take W = encW W L[i] := by
  rw [intsBytes, ← List.drop_drop, List.drop_left' (by simp)]
  exact flat_at W L i h
/-- Cells of a row whose beginning is known. -/
theorem cells_of_take {w : World} {b : Nat} {cur : Array Value} {E : TypeId} (h : RowAt w b E cur) {bs : List UInt8} {n : Nat} (hn : bs.length = n) (ht : cur.toList.take n = bs.map u8v)
    {o : Nat} {xs : List UInt8} (hx : (bs.drop o).take xs.length = xs) : ∀ i (h : i < xs.length), w.cell? ⟨b, o + i, none⟩ = some (.int .u8 xs[i].toNat) := by
  intro i hi
  refine h.cell ?_
  have h1 : bs[o + i]? = some xs[i] := by
    have : ((bs.drop o).take xs.length)[i]? = xs[i]? := by rw [hx]
    simpa [hi] using this
  have hlt : o + i < n := by
    rw [← hn]; exact (List.getElem?_eq_some_iff.1 h1).1
  have h2 : (cur.toList.take n)[o + i]? = (bs.map u8v)[o + i]? := by rw [ht]
  rw [List.getElem?_take_of_lt hlt] at h2
  simpa [h1] using h2
theorem wrap64_i16 (x : Int) : wrap64 (IntKind.i16.wrap x) = IntKind.i16.wrap x := by
  simp [wrap64, IntKind.wrap, IntKind.bits, IntKind.signed]; omega
theorem wrap64_i32 (x : Int) : wrap64 (wrap32 x) = IntKind.i32.wrap x := by
  simp [wrap64, wrap32, IntKind.wrap, IntKind.bits, IntKind.signed]; omega
theorem wrap64_is (x : Int) : wrap64 x = IntKind.i64.wrap x := by
  simp [wrap64, IntKind.wrap, IntKind.bits, IntKind.signed]; omega
end Go.Proofs.Ytncdckakcmoejaa
