/- radix: RadixOrders, for every input. -/
import Derived.Test.YtbjpfnafhhbmaaaRadF
import Derived.Test.YtbjpfnafhhbmaaaRadH
namespace Go.Proofs.Ytbjpfnafhhbmaaa
set_option linter.unusedVariables false
set_option linter.unusedSimpArgs false
open Go.RowKit Rad
set_option maxHeartbeats 800000 in
set_option maxRecDepth 100000 in
theorem orders_long {w : World} {a : Option Addr} {len cap : Nat} (hlen : 300 < len) (ms seq : Nat) :
    Calls Try.prog 4 #[.slice a len cap, .agg #[.int .u64 ms, .int .u64 seq]] w fun e w' => e = .returned (.bool true) ∧ Below w.heap.size w w' := by
  obtain ⟨w1, hw1⟩ : ∃ w1, w1 = w.alloc (.cells #[.int .u64 ms, .int .u64 seq] 25) := ⟨_, rfl⟩
  have hb1 : Below w.heap.size w w1 := by rw [hw1]; exact (Below.refl _ _).alloc (Nat.le_refl _) _
  have HW1 := Lib.hid hw1
  have HB1 := Lib.hid hb1
  clear hw1 hb1
  go_enter Try.func4, Try.ntmps4
  go_wp2_with fail
  rw [← HW1.out]
  refine (alive_any w1).mono ?_
  rintro e w2 ⟨rfl, b2⟩
  have HB2 := Lib.hid (HB1.out.trans (b2.mono HB1.out.size))
  clear b2
  go_wp2_with fail
  refine (alive_any w2).mono ?_
  rintro e w3 ⟨rfl, b3⟩
  have HB3 := Lib.hid (HB2.out.trans (b3.mono HB2.out.size))
  clear b3
  go_wp2_with fail
  go_ret
  exact ⟨rfl, HB3.out⟩
theorem radixOrders_walk (a : Option Addr) (len cap : Nat) (zs : List (Int × Int)) (m s : Int) (W : World) (h : zs.length = len ∧ RecRow W a len cap (fun i => .int .u64 (zs.getD i (0, 0)).1) (fun i => .int .u64 (zs.getD i (0, 0)).2) ∧ ∀ n ∈ zs, (Lit.int .u64 n.1).wf = true ∧ (Lit.int .u64 n.2).wf = true)
    (hm : (Lit.int .u64 m).wf = true) (hs : (Lit.int .u64 s).wf = true) :
    Calls Try.prog 4 #[.slice a len cap, .agg #[.int .u64 m, .int .u64 s]] W fun e W' => e = .returned (.bool true) ∧ Below W.heap.size W W' := by
  obtain ⟨ms, rfl, h1⟩ := wf_u64 hm
  obtain ⟨seq, rfl, h2⟩ := wf_u64 hs
  have hr := recs_ids h
  rcases Nat.lt_or_ge 300 len with hl | hl
  · exact orders_long hl ms seq
  · exact orders_any hr hl h1 h2
end Go.Proofs.Ytbjpfnafhhbmaaa
