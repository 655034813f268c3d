/- radix: trees in memory; New, Len, less. -/
import Derived.Test.YtbjpfnafhhbmaaaRad11
namespace Go.Proofs.Ytbjpfnafhhbmaaa.Rad
open Go.Proofs.Ytbjpfnafhhbmaaa
set_option linter.unusedVariables false
set_option linter.unusedSimpArgs false
open Go.RowKit
def ptrV (x : Nat) : Value := .pointer (some ⟨x, 0, none⟩)
/-- Bytes that are only read, in a block that ro has. -/
def BytesRo (w : World) (ro : Nat → Prop) (a : Option Addr) (xs : List UInt8) (cap : Nat) : Prop :=
  xs.length ≤ cap ∧ (xs.length = 0 ∨ ∃ b o, a = some ⟨b, o, none⟩ ∧ ro b ∧ b < w.heap.size ∧ ∀ i, i < xs.length → w.cell? ⟨b, o + i, none⟩ = some (.int .u8 (xs.getD i 0).toNat))
theorem BytesRo.bytes {w : World} {ro : Nat → Prop} {a : Option Addr} {xs : List UInt8} {cap : Nat} (h : BytesRo w ro a xs cap) : BytesIn w a xs cap :=
  ⟨h.1, h.2.imp id fun ⟨b, o, e, _, _, hc⟩ => ⟨b, o, e, hc⟩⟩
theorem BytesRo.chg {w w' : World} {ro : Nat → Prop} {a : Option Addr} {xs : List UInt8} {cap : Nat} (h : BytesRo w ro a xs cap) {S : Nat → Prop} (hc : Chg S w w') (hd : ∀ k, ro k → ¬ S k) : BytesRo w' ro a xs cap := by
  refine ⟨h.1, h.2.imp id ?_⟩
  rintro ⟨b, o, e, h1, h2, h3⟩
  refine ⟨b, o, e, h1, Nat.lt_of_lt_of_le h2 hc.size, fun i hi => ?_⟩
  rw [World.cell?_of_block (w := w) (hc.block b h2 (hd b h1))]
  exact h3 i hi
mutual
/-- Node x of a tree, in its own blocks, of bytes in ro. -/
def NodeAt (w : World) (ro : Nat → Prop) : RT → Nat → List Nat → Prop
  | .mk b v k, x, own => ∃ a ca kv xs rows, w.heap[x]? = some (.cells #[.slice a b.length ca, kv, vC v] 45 (0, 0)) ∧ BytesRo w ro a b ca ∧
      SliceIs w 0 38 kv k.length (xs.map ptrV) ∧ NodesAt w ro k xs rows ∧ own = x :: ((vblock kv).toList ++ rows)
def NodesAt (w : World) (ro : Nat → Prop) : List RT → List Nat → List Nat → Prop
  | [], xs, own => xs = [] ∧ own = []
  | t :: l, xs, own => ∃ x ys o1 o2, xs = x :: ys ∧ NodeAt w ro t x o1 ∧ NodesAt w ro l ys o2 ∧ own = o1 ++ o2
end
theorem mem_vblock {v : Value} {k : Nat} (h : vblock v = some k) : k ∈ (vblock v).toList := by rw [h]; simp
mutual
theorem NodeAt.chg {w w' : World} {ro S : Nat → Prop} (hc : Chg S w w') (hr : ∀ k, ro k → ¬ S k) : ∀ {t : RT} {x : Nat} {own : List Nat}, NodeAt w ro t x own → (∀ k ∈ own, ¬ S k) → NodeAt w' ro t x own
  | .mk b v k, x, own, h, hd => by
    rw [NodeAt] at h ⊢
    obtain ⟨a, ca, kv, xs, rows, h1, h2, h3, h4, rfl⟩ := h
    refine ⟨a, ca, kv, xs, rows, hc.keep h1 (hd x (by simp)), h2.chg hc hr, h3.chg hc fun g hg => hd g (by simp [mem_vblock hg]), NodesAt.chg hc hr h4 fun g hg => hd g (by simp [hg]), rfl⟩
theorem NodesAt.chg {w w' : World} {ro S : Nat → Prop} (hc : Chg S w w') (hr : ∀ k, ro k → ¬ S k) : ∀ {l : List RT} {xs own : List Nat}, NodesAt w ro l xs own → (∀ k ∈ own, ¬ S k) → NodesAt w' ro l xs own
  | [], xs, own, h, hd => by
    rw [NodesAt] at h ⊢
    exact h
  | t :: l, xs, own, h, hd => by
    rw [NodesAt] at h ⊢
    obtain ⟨x, ys, o1, o2, h1, h2, h3, rfl⟩ := h
    exact ⟨x, ys, o1, o2, h1, NodeAt.chg hc hr h2 fun g hg => hd g (by simp [hg]), NodesAt.chg hc hr h3 fun g hg => hd g (by simp [hg]), rfl⟩
end
mutual
theorem NodeAt.ro {w : World} {ro ro' : Nat → Prop} (hr : ∀ k, ro k → ro' k) : ∀ {t : RT} {x : Nat} {own : List Nat}, NodeAt w ro t x own → NodeAt w ro' t x own
  | .mk b v k, x, own, h => by
    rw [NodeAt] at h ⊢
    obtain ⟨a, ca, kv, xs, rows, h1, h2, h3, h4, h5⟩ := h
    exact ⟨a, ca, kv, xs, rows, h1, ⟨h2.1, h2.2.imp id fun ⟨g, o, e, q, r⟩ => ⟨g, o, e, hr g q, r⟩⟩, h3, NodesAt.ro hr h4, h5⟩
theorem NodesAt.ro {w : World} {ro ro' : Nat → Prop} (hr : ∀ k, ro k → ro' k) : ∀ {l : List RT} {xs own : List Nat}, NodesAt w ro l xs own → NodesAt w ro' l xs own
  | [], xs, own, h => by
    rw [NodesAt] at h ⊢
    exact h
  | t :: l, xs, own, h => by
    rw [NodesAt] at h ⊢
    obtain ⟨x, ys, o1, o2, h1, h2, h3, h4⟩ := h
    exact ⟨x, ys, o1, o2, h1, NodeAt.ro hr h2, NodesAt.ro hr h3, h4⟩
end
theorem radNew (w : World) : Calls Try.prog 14 #[] w fun e w' => e = .returned (ptrV w.heap.size) ∧ w' = w.alloc (.cells #[.bool true, .pointer none, .int .i64 0] 40) := by
  go_enter Try.func14, Try.ntmps14
  go_wp2_with fail
  go_ret
  exact ⟨rfl, rfl⟩
theorem radLen {w : World} {p : Nat} {v : Value} {n : Int} (h : w.heap[p]? = some (.cells #[.bool true, v, .int .i64 n] 40 (0, 0))) :
    Calls Try.prog 8 #[ptrV p] w fun e w' => e = .returned (.int .i64 n) ∧ w = w' := by
  have c2 := cell_in h (i := 2) rfl
  unfold ptrV
  go_enter Try.func8, Try.ntmps8
  go_wp2_with fail
  go_ret
  exact ⟨rfl, rfl⟩
end Go.Proofs.Ytbjpfnafhhbmaaa.Rad
