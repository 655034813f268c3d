/- radix: identifiers' bytes rise as they do. -/
import Derived.Test.YtbjpfnafhhbmaaaRad2
namespace Go.Proofs.Ytbjpfnafhhbmaaa
set_option linter.unusedVariables false
set_option linter.unusedSimpArgs false
/-- The number that bytes are, the highest first. -/
def valB : List UInt8 → Nat
  | [] => 0
  | x :: l => x.toNat * 256 ^ l.length + valB l
theorem valB_lt : ∀ l : List UInt8, valB l < 256 ^ l.length
  | [] => by simp [valB]
  | x :: l => by
    have h1 := valB_lt l
    have h2 := x.toNat_lt
    have h3 : (x.toNat + 1) * 256 ^ l.length ≤ 256 * 256 ^ l.length := Nat.mul_le_mul_right _ (by omega)
    rw [Nat.succ_mul] at h3
    simp only [valB, List.length_cons, Nat.pow_succ]
    omega
theorem valB_append : ∀ a b : List UInt8, valB (a ++ b) = valB a * 256 ^ b.length + valB b
  | [], b => by simp [valB]
  | x :: a, b => by
    have := valB_append a b
    simp only [List.cons_append, valB, this, List.length_append, Nat.pow_add, Nat.add_mul, Nat.mul_assoc]
    omega
theorem lt_valB : ∀ {a b : List UInt8}, a.length = b.length → (a < b ↔ valB a < valB b)
  | [], [], _ => by simp [valB]
  | [], y :: b, h => by simp at h
  | x :: a, [], h => by simp at h
  | x :: a, y :: b, h => by
    have hl : a.length = b.length := by simpa using h
    have ih := lt_valB hl
    have h1 := valB_lt a
    have h2 := valB_lt b
    rw [List.cons_lt_cons_iff, ih, UInt8.lt_iff_toNat_lt]
    simp only [valB, hl]
    rw [hl] at h1
    generalize 256 ^ b.length = P at *
    constructor
    · rintro (h | ⟨rfl, h⟩)
      · have : (x.toNat + 1) * P ≤ y.toNat * P := Nat.mul_le_mul_right _ h
        rw [Nat.succ_mul] at this
        omega
      · omega
    · intro h
      rcases Nat.lt_trichotomy x.toNat y.toNat with h3 | h3 | h3
      · exact .inl h3
      · rw [h3] at h
        exact .inr ⟨UInt8.toNat_inj.1 h3, by omega⟩
      · have : (y.toNat + 1) * P ≤ x.toNat * P := Nat.mul_le_mul_right _ h3
        rw [Nat.succ_mul] at this
        omega
theorem valB_be (n : Nat) (h : n < 18446744073709551616) : valB (beB n 8) = n := by
  simp only [beB, List.range, List.range.loop, List.map_cons, List.map_nil, valB, List.length_cons, List.length_nil, UInt8.toNat_ofNat']
  omega
theorem idBytes_length (ms seq : Nat) : (idBytes ms seq).length = 16 := by simp [idBytes]
theorem idBytes_lt {a b c d : Nat} (ha : a < 18446744073709551616) (hb : b < 18446744073709551616) (hc : c < 18446744073709551616) (hd : d < 18446744073709551616) :
    idBytes a b < idBytes c d ↔ a < c ∨ (a = c ∧ b < d) := by
  rw [lt_valB (by rw [idBytes_length, idBytes_length]), idBytes, idBytes, valB_append, valB_append, valB_be a ha, valB_be b hb, valB_be c hc, valB_be d hd, beB_length, beB_length]
  omega
theorem idBytes_inj {a b c d : Nat} (ha : a < 18446744073709551616) (hb : b < 18446744073709551616) (hc : c < 18446744073709551616) (hd : d < 18446744073709551616) (h : idBytes a b = idBytes c d) : a = c ∧ b = d := by
  have := congrArg valB h
  rw [idBytes, idBytes, valB_append, valB_append, valB_be a ha, valB_be b hb, valB_be c hc, valB_be d hd, beB_length, beB_length] at this
  omega
end Go.Proofs.Ytbjpfnafhhbmaaa
