/- pack: texts in one piece, in plain Lean. -/
import Derived.Test.YtcoepekoacpgnaaDoorStr
import Derived.Lib.ParseIntB
import Derived.Lib.ItoaNum
namespace Go.Proofs.YtcoepekoacpgnaaDoor
set_option linter.unusedVariables false
set_option linter.unusedSimpArgs false
open Go.RowKit
theorem str_eq {a b : ByteArray} (h : a = b) : (a.toList == b.toList) = true := by rw [h]; exact beq_self_eq_true _
theorem str_ne {a b : ByteArray} (h : a ≠ b) : (a.toList == b.toList) = false := by
  rw [beq_eq_false_iff_ne, ne_eq, ByteArray.toList_eq, ByteArray.toList_eq]
  exact fun e => h (ByteArray.ext (Array.toList_inj.1 e))
/-- The whole number of a text. -/
def intS (s : ByteArray) : Option Int :=
  match Lib.parseIntB 64 s.data.toList with
  | .ok v => if strOf (Lib.itoa v) = s then some v else none
  | _ => none
def intT (n : Int) : ByteArray := strOf (Lib.itoa n)
theorem parseU_bound : ∀ (M : Nat) (l : List UInt8) (acc u : Nat), acc ≤ M → Lib.parseUintM M acc l = .ok u → u ≤ M
  | M, [], acc, u, h, e => by simp only [Lib.parseUintM] at e; cases e; exact h
  | M, c :: r, acc, u, h, e => by
    simp only [Lib.parseUintM] at e
    split at e
    · split at e
      · cases e
      · split at e
        · cases e
        · exact parseU_bound M r _ u (by omega) e
    · cases e
theorem parseI_range {l : List UInt8} {v : Int} (h : Lib.parseIntB 64 l = .ok v) : -9223372036854775808 ≤ v ∧ v ≤ 9223372036854775807 := by
  unfold Lib.parseIntB at h
  cases l with
  | nil => cases h
  | cons c r =>
    simp only at h
    split at h
    · cases h
    · cases h
    · next u hu =>
      split at h
      · cases h
      · split at h
        · cases h
        · next h1 h2 =>
          simp only [Nat.reduceSub, Nat.reducePow] at h1 h2
          cases h
          split <;> omega
theorem intS_range {s : ByteArray} {n : Int} (h : intS s = some n) : -9223372036854775808 ≤ n ∧ n ≤ 9223372036854775807 := by
  unfold intS at h
  split at h
  · next v hv =>
    split at h
    · cases h; exact parseI_range hv
    · cases h
  · cases h
theorem intS_text {s : ByteArray} {n : Int} (h : intS s = some n) : intT n = s := by
  unfold intS at h
  split at h
  · next v hv =>
    split at h
    · next he => cases h; exact he
    · cases h
  · cases h
/-- How many bytes a whole number wants. -/
def wideI (n : Int) : Nat := if -128 ≤ n ∧ n ≤ 127 then 1 else if -32768 ≤ n ∧ n ≤ 32767 then 2 else if -2147483648 ≤ n ∧ n ≤ 2147483647 then 4 else 8
/-- Of a size, readable from behind. -/
def backF : Nat → Nat → List UInt8
  | 0, _ => []
  | f + 1, n => if n < 128 then [UInt8.ofNat n] else backF f (n / 128) ++ [UInt8.ofNat (128 + n % 128)]
def backL (n : Nat) : List UInt8 := backF 5 n
/-- An entry's head and body. -/
def headL (s : ByteArray) : List UInt8 :=
  match intS s with
  | some n => UInt8.ofNat (240 + wideI n) :: leN (wideI n) (n % 18446744073709551616).toNat
  | none => if s.size < 128 then UInt8.ofNat s.size :: s.data.toList else 128 :: (leN 3 s.size ++ s.data.toList)
def entL (s : ByteArray) : List UInt8 := headL s ++ backL (headL s).length
def bodyL (L : List ByteArray) : List UInt8 := L.flatMap entL
def sizeP (L : List ByteArray) : Nat := (bodyL L).length + 9
/-- The piece. -/
def packL (L : List ByteArray) : List UInt8 := leN 4 (sizeP L) ++ (leN 4 L.length ++ (bodyL L ++ [255]))
def signN (w n : Nat) : Int := if n < 2 ^ (8 * w - 1) then (n : Int) else (n : Int) - (2 ^ (8 * w) : Nat)
/-- The text of an entry, and how many bytes its head and body are. -/
def readL : List UInt8 → Option (ByteArray × Nat)
  | [] => none
  | c :: body =>
    if c.toNat < 128 then (if body.length < c.toNat then none else some (strOf (body.take c.toNat), 1 + c.toNat))
    else if c.toNat = 128 ∧ 3 ≤ body.length then (if body.length - 3 < lowN (body.take 3) then none else some (strOf ((body.drop 3).take (lowN (body.take 3))), 4 + lowN (body.take 3)))
    else if (c.toNat = 241 ∨ c.toNat = 242 ∨ c.toNat = 244 ∨ c.toNat = 248) ∧ c.toNat - 240 ≤ body.length then some (intT (signN (c.toNat - 240) (lowN (body.take (c.toNat - 240)))), 1 + (c.toNat - 240))
    else none
theorem wideI_cases (n : Int) : wideI n = 1 ∨ wideI n = 2 ∨ wideI n = 4 ∨ wideI n = 8 := by
  unfold wideI; split
  · exact .inl rfl
  · split
    · exact .inr (.inl rfl)
    · split
      · exact .inr (.inr (.inl rfl))
      · exact .inr (.inr (.inr rfl))
theorem sign_wide {n : Int} (h : -9223372036854775808 ≤ n ∧ n ≤ 9223372036854775807) : signN (wideI n) ((n % 18446744073709551616).toNat % 256 ^ wideI n) = n := by
  unfold wideI
  split
  · simp only [signN, Nat.reduceMul, Nat.reduceSub, Nat.reducePow]; split <;> omega
  · split
    · simp only [signN, Nat.reduceMul, Nat.reduceSub, Nat.reducePow]; split <;> omega
    · split
      · simp only [signN, Nat.reduceMul, Nat.reduceSub, Nat.reducePow]; split <;> omega
      · simp only [signN, Nat.reduceMul, Nat.reduceSub, Nat.reducePow]; split <;> omega
theorem headL_int {s : ByteArray} {n : Int} (h : intS s = some n) : headL s = UInt8.ofNat (240 + wideI n) :: leN (wideI n) (n % 18446744073709551616).toNat := by unfold headL; rw [h]
theorem headL_short {s : ByteArray} (h : intS s = none) (h1 : s.size < 128) : headL s = UInt8.ofNat s.size :: s.data.toList := by unfold headL; rw [h]; simp [h1]
theorem headL_long {s : ByteArray} (h : intS s = none) (h1 : 128 ≤ s.size) : headL s = 128 :: (leN 3 s.size ++ s.data.toList) := by unfold headL; rw [h]; simp [Nat.not_lt.2 h1]
theorem size_list (s : ByteArray) : s.data.toList.length = s.size := by simp
theorem headL_length (s : ByteArray) : 1 ≤ (headL s).length ∧ (headL s).length ≤ s.size + 9 := by
  have := size_list s
  cases h : intS s with
  | some n =>
    rw [headL_int h, List.length_cons, leN_length]
    rcases wideI_cases n with e | e | e | e <;> rw [e] <;> omega
  | none =>
    by_cases h1 : s.size < 128
    · rw [headL_short h h1, List.length_cons]; omega
    · rw [headL_long h (by omega), List.length_cons, List.length_append, leN_length]; omega
/-- What was written is read, whatever stands behind it. -/
theorem read_head (s : ByteArray) (hs : s.size < 16777216) (r : List UInt8) : readL (headL s ++ r) = some (s, (headL s).length) := by
  have hl := size_list s
  cases h : intS s with
  | some n =>
    have hr := sign_wide (intS_range h)
    have ht := intS_text h
    rw [headL_int h, List.cons_append, readL, List.length_cons, leN_length]
    have hw := wideI_cases n
    have hc : (UInt8.ofNat (240 + wideI n)).toNat = 240 + wideI n := by
      rw [UInt8.toNat_ofNat']; omega
    rw [hc, if_neg (by omega), if_neg (by omega), if_pos ⟨by omega, by simp⟩, Nat.add_sub_cancel_left, List.take_left' (leN_length _ _), lowN_leN, hr, ht, Nat.add_comm]
  | none =>
    by_cases h1 : s.size < 128
    · have hc : (UInt8.ofNat s.size).toNat = s.size := by rw [UInt8.toNat_ofNat']; omega
      rw [headL_short h h1, List.cons_append, readL, hc, if_pos h1, if_neg (by simp), List.take_left' hl, strOf_toList, List.length_cons, hl, Nat.add_comm]
    · have e1 : ((leN 3 s.size ++ s.data.toList) ++ r).take 3 = leN 3 s.size := by rw [List.append_assoc]; exact List.take_left' (leN_length _ _)
      have e2 : ((leN 3 s.size ++ s.data.toList) ++ r).drop 3 = s.data.toList ++ r := by rw [List.append_assoc]; exact List.drop_left' (leN_length _ _)
      have e3 : lowN (leN 3 s.size) = s.size := by rw [lowN_leN]; omega
      rw [headL_long h (by omega), List.cons_append, readL, e1, e2, e3, List.take_left' hl, strOf_toList]
      rw [if_neg (by decide), if_pos ⟨by decide, by simp⟩, if_neg (by simp)]
      simp; omega
end Go.Proofs.YtcoepekoacpgnaaDoor
