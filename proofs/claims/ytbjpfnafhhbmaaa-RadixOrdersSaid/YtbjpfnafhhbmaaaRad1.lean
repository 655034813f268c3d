/- radix: bytes, alike, New, Len. -/
import Derived.Test.YtbjpfnafhhbmaaaCom
namespace Go.Proofs.Ytbjpfnafhhbmaaa
set_option linter.unusedVariables false
set_option linter.unusedSimpArgs false
open Go.RowKit
/-- The first j bytes of a number, the highest first. -/
def beB (n j : Nat) : List UInt8 := (List.range j).map fun i => UInt8.ofNat (n / 2 ^ (56 - 8 * i))
theorem beB_succ (n j : Nat) : beB n (j + 1) = beB n j ++ [UInt8.ofNat (n / 2 ^ (56 - 8 * j))] := by simp [beB, List.range_succ]
@[simp] theorem beB_length (n j : Nat) : (beB n j).length = j := by simp [beB]
def idBytes (ms seq : Nat) : List UInt8 := beB ms 8 ++ beB seq 8
theorem u8v_be (n k : Nat) : u8v (UInt8.ofNat (n / 2 ^ k)) = .int .u8 ((n : Int) / 2 ^ k % 256) := by
  rw [u8v_of]
  simp
set_option maxHeartbeats 1600000 in
set_option maxRecDepth 100000 in
theorem bytes_any (ms seq : Nat) (h1 : ms < 18446744073709551616) (h2 : seq < 18446744073709551616) (w : World) :
    Calls Try.prog 17 #[.agg #[.int .u64 ms, .int .u64 seq]] w fun e w' => ∃ v, e = .returned v ∧ SliceIs w' w.heap.size 5 v 16 ((idBytes ms seq).map u8v) ∧ Below w.heap.size w w' := by
  obtain ⟨w1, hw1⟩ : ∃ w1, w1 = w.alloc (.cells #[.int .u64 ms, .int .u64 seq] 25) := ⟨_, rfl⟩
  have hb1 : Below w.heap.size w w1 := by rw [hw1]; exact (Below.refl _ _).alloc (Nat.le_refl _) _
  have hq : w1.heap[w.heap.size]? = some (.cells #[.int .u64 ms, .int .u64 seq] 25 (0, 0)) := by rw [hw1]; exact heap_new _ _
  have hlt : w.heap.size < w1.heap.size := heap_lt hq
  have HW := Lib.hid hw1
  have HQ := Lib.hid hq
  have HB := Lib.hid hb1
  clear hw1 hq hb1
  go_enter Try.func17, Try.ntmps17
  go_wp2_with fail
  rw [← HW.out]
  go_loopw [2, 3] (fun l i wr => ∃ j : Nat, j ≤ 8 ∧ i = .int .i64 (56 - 8 * (j : Int)) ∧ Hid (SliceIs wr w1.heap.size 5 l j ((beB ms j).map u8v) ∧ Below w1.heap.size w1 wr)) (fun _ i _ => (intOf i + 8).toNat)
  case atStart => exact ⟨0, by omega, rfl, Lib.hid ⟨SliceIs.nil _ _ _, Below.refl _ _⟩⟩
  case round =>
    obtain ⟨j, hj, rfl, hI⟩ := hrel
    have e0 : wr.cell? ⟨w.heap.size, 0, none⟩ = some (.int .u64 ms) := by rw [hI.out.2.cell hlt]; exact cell_in HQ.out (i := 0) rfl
    by_cases hlt2 : j < 8
    · obtain ⟨v2, w2, r2, s2, b2⟩ := append8 hI.out.1 hI.out.2.size (UInt8.ofNat (ms / 2 ^ (56 - 8 * j))) (by omega)
      rw [← beB_succ] at s2
      rw [u8v_be] at r2
      have HR2 := Lib.hid r2
      have HNw := Lib.hid (And.intro s2 (hI.out.2.trans b2))
      clear s2 b2 r2 hI
      go_wp2_with (at_builtin; refine wpList_append_run rfl rfl HR2.out ?_)
      go_roundw
      case rel => exact ⟨j + 1, by omega, by go_num, HNw⟩
      case measure => simp [intOf]; omega
    · have : j = 8 := by omega
      subst this
      have HI1 := hI
      clear hI e0
      rw [show (56 : Int) - 8 * ((8 : Nat) : Int) = -8 from rfl]
      go_wp2_with fail
      go_loopw [2, 4] (fun l i wr => ∃ j : Nat, j ≤ 8 ∧ i = .int .i64 (56 - 8 * (j : Int)) ∧ Hid (SliceIs wr w1.heap.size 5 l (8 + j) ((beB ms 8 ++ beB seq j).map u8v) ∧ Below w1.heap.size w1 wr)) (fun _ i _ => (intOf i + 8).toNat)
      case atStart => exact ⟨0, by omega, rfl, by simpa [beB] using HI1⟩
      case round =>
        obtain ⟨j, hj, rfl, hI⟩ := hrel
        have e0 : wr.cell? ⟨w.heap.size, 1, none⟩ = some (.int .u64 seq) := by rw [hI.out.2.cell hlt]; exact cell_in HQ.out (i := 1) rfl
        by_cases hlt2 : j < 8
        · obtain ⟨v2, w2, r2, s2, b2⟩ := append8 hI.out.1 hI.out.2.size (UInt8.ofNat (seq / 2 ^ (56 - 8 * j))) (by omega)
          rw [List.append_assoc, ← beB_succ] at s2
          rw [u8v_be] at r2
          have HR2 := Lib.hid r2
          have HNw := Lib.hid (And.intro s2 (hI.out.2.trans b2))
          clear s2 b2 r2 hI
          go_wp2_with (at_builtin; refine wpList_append_run rfl rfl HR2.out ?_)
          go_roundw
          case rel => exact ⟨j + 1, by omega, by go_num, HNw⟩
          case measure => simp [intOf]; omega
        · have : j = 8 := by omega
          subst this
          go_wp2_with fail
          go_ret
          exact ⟨_, rfl, hI.out.1.mono (by omega), HB.out.trans (hI.out.2.mono (by omega))⟩
end Go.Proofs.Ytbjpfnafhhbmaaa
