/- radix: RadixUndoes, for every input. -/
import Derived.Test.YtbjpfnafhhbmaaaRadD
namespace Go.Proofs.Ytbjpfnafhhbmaaa
set_option linter.unusedVariables false
set_option linter.unusedSimpArgs false
open Go.RowKit Rad
theorem wf_u64 {n : Int} (h : (Lit.int .u64 n).wf = true) : ∃ k : Nat, n = k ∧ k < 18446744073709551616 := by
  have h1 : 0 ≤ n ∧ n ≤ 18446744073709551615 := by
    simp only [Lit.wf, Bool.and_eq_true, decide_eq_true_eq] at h
    exact h
  exact ⟨n.toNat, by omega, by omega⟩
theorem recs_ids {w : World} {a : Option Addr} {len cap : Nat} {zs : List (Int × Int)} (h : zs.length = len ∧ RecRow w a len cap (fun i => .int .u64 (zs.getD i (0, 0)).1) (fun i => .int .u64 (zs.getD i (0, 0)).2) ∧ ∀ n ∈ zs, (Lit.int .u64 n.1).wf = true ∧ (Lit.int .u64 n.2).wf = true) :
    IdRow w a len cap (zs.map fun z => (z.1.toNat, z.2.toNat)) := by
  obtain ⟨h1, ⟨h2, h3⟩, h4⟩ := h
  refine ⟨by simpa using h1, h2, fun x hx => ?_, h3.imp id ?_⟩
  · obtain ⟨z, hz, rfl⟩ := List.mem_map.1 hx
    obtain ⟨k1, e1, l1⟩ := wf_u64 (h4 z hz).1
    obtain ⟨k2, e2, l2⟩ := wf_u64 (h4 z hz).2
    rw [e1, e2]
    exact ⟨by simpa using l1, by simpa using l2⟩
  · rintro ⟨b, o, e, hc⟩
    refine ⟨b, o, e, fun i hi => ?_⟩
    have hi' : i < zs.length := by omega
    obtain ⟨k1, e1, _⟩ := wf_u64 (h4 zs[i] (List.getElem_mem hi')).1
    obtain ⟨k2, e2, _⟩ := wf_u64 (h4 zs[i] (List.getElem_mem hi')).2
    have := hc i hi
    simp only [List.getD, List.getElem?_eq_getElem hi', Option.getD_some, List.getElem?_map, Option.map_some] at this ⊢
    rw [e1, e2] at this
    rw [e1, e2]
    simpa using this
set_option maxHeartbeats 800000 in
set_option maxRecDepth 100000 in
theorem undo_long {w : World} {a : Option Addr} {len cap : Nat} (hlen : 300 < len) (ms seq : Nat) :
    Calls Try.prog 3 #[.slice a len cap, .agg #[.int .u64 ms, .int .u64 seq]] w fun e w' => e = .returned (.bool true) ∧ Below w.heap.size w w' := by
  obtain ⟨w1, hw1⟩ : ∃ w1, w1 = w.alloc (.cells #[.int .u64 ms, .int .u64 seq] 25) := ⟨_, rfl⟩
  have hb1 : Below w.heap.size w w1 := by rw [hw1]; exact (Below.refl _ _).alloc (Nat.le_refl _) _
  have HW1 := Lib.hid hw1
  have HB1 := Lib.hid hb1
  clear hw1 hb1
  go_enter Try.func3, Try.ntmps3
  go_wp2_with fail
  rw [← HW1.out]
  refine (alive_any w1).mono ?_
  rintro e w2 ⟨rfl, b2⟩
  have HB2 := Lib.hid (HB1.out.trans (b2.mono HB1.out.size))
  clear b2
  go_wp2_with fail
  refine (alive_any w2).mono ?_
  rintro e w3 ⟨rfl, b3⟩
  have HB3 := Lib.hid (HB2.out.trans (b3.mono HB2.out.size))
  clear b3
  go_wp2_with fail
  go_ret
  exact ⟨rfl, HB3.out⟩
theorem radixUndoes_walk (a : Option Addr) (len cap : Nat) (zs : List (Int × Int)) (m s : Int) (W : World) (h : zs.length = len ∧ RecRow W a len cap (fun i => .int .u64 (zs.getD i (0, 0)).1) (fun i => .int .u64 (zs.getD i (0, 0)).2) ∧ ∀ n ∈ zs, (Lit.int .u64 n.1).wf = true ∧ (Lit.int .u64 n.2).wf = true)
    (hm : (Lit.int .u64 m).wf = true) (hs : (Lit.int .u64 s).wf = true) :
    Calls Try.prog 3 #[.slice a len cap, .agg #[.int .u64 m, .int .u64 s]] W fun e W' => e = .returned (.bool true) ∧ Below W.heap.size W W' := by
  obtain ⟨ms, rfl, h1⟩ := wf_u64 hm
  obtain ⟨seq, rfl, h2⟩ := wf_u64 hs
  have hr := recs_ids h
  rcases Nat.lt_or_ge 300 len with hl | hl
  · exact undo_long hl ms seq
  · cases hlk : lookO (fillK (zs.map fun z => (z.1.toNat, z.2.toNat)) len) (idBytes ms seq) with
    | none => exact undo_new hr hl h1 h2 hlk
    | some v => exact undo_old hr hl h1 h2 hlk
end Go.Proofs.Ytbjpfnafhhbmaaa
