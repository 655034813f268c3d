/- radix: the nodes below one, each by its place. -/
import Derived.Test.YtbjpfnafhhbmaaaRad14
namespace Go.Proofs.Ytbjpfnafhhbmaaa.Rad
open Go.Proofs.Ytbjpfnafhhbmaaa
set_option linter.unusedVariables false
set_option linter.unusedSimpArgs false
open Go.RowKit
theorem NodesAt.length {w : World} {ro : Nat → Prop} : ∀ {l : List RT} {xs own : List Nat}, NodesAt w ro l xs own → xs.length = l.length
  | [], xs, own, h => by rw [NodesAt] at h; simp [h.1]
  | t :: l, xs, own, h => by
    rw [NodesAt] at h
    obtain ⟨x, ys, o1, o2, rfl, _, h3, _⟩ := h
    simp [NodesAt.length h3]
theorem NodesAt.get {w : World} {ro : Nat → Prop} : ∀ {l : List RT} {xs own : List Nat}, NodesAt w ro l xs own → ∀ i (h : i < l.length), ∃ o, NodeAt w ro l[i] (xs.getD i 0) o ∧ ∀ k ∈ o, k ∈ own
  | [], xs, own, h, i, hi => by simp at hi
  | t :: l, xs, own, h, i, hi => by
    rw [NodesAt] at h
    obtain ⟨x, ys, o1, o2, rfl, h2, h3, rfl⟩ := h
    cases i with
    | zero => exact ⟨o1, by simpa using h2, fun k hk => by simp [hk]⟩
    | succ i =>
      obtain ⟨o, h4, h5⟩ := NodesAt.get h3 i (by simpa using hi)
      exact ⟨o, by simpa using h4, fun k hk => by simp [h5 k hk]⟩
/-- What seek reads of the node at place i. -/
theorem kid_cells {w : World} {ro : Nat → Prop} {b : List UInt8} {v : VT} {k : List RT} {x : Nat} {own : List Nat} (h : NodeAt w ro (.mk b v k) x own) (hb : ∀ u ∈ k, u.begin ≠ []) {i : Nat} (hi : i < k.length) :
    ∃ g cap y q p m cm, w.cell? ⟨x, 1, none⟩ = some (.slice (some ⟨g, 0, none⟩) k.length cap) ∧ w.cell? ⟨g, i, none⟩ = some (ptrV y) ∧ w.cell? ⟨y, 0, none⟩ = some (.slice (some ⟨q, p, none⟩) m cm) ∧ 0 < m ∧
      w.cell? ⟨q, p, none⟩ = some (.int .u8 (k[i].first).toNat) := by
  rw [NodeAt] at h
  obtain ⟨a, ca, kv, xs, rows, h1, h2, h3, h4, _⟩ := h
  have hl := h4.length
  obtain ⟨o, h5, _⟩ := h4.get i hi
  have hbi := hb k[i] (List.getElem_mem hi)
  obtain ⟨c, u, kk, hk⟩ : ∃ c u kk, k[i] = .mk c u kk := by cases k[i]; exact ⟨_, _, _, rfl⟩
  rw [hk] at h5 hbi ⊢
  rw [NodeAt] at h5
  obtain ⟨a', ca', kv', xs', rows', g1, g2, _⟩ := h5
  have hc : 0 < c.length := List.length_pos_iff.2 hbi
  obtain ⟨q, p, rfl, _, _, hq⟩ := g2.2.resolve_left (by omega)
  rcases h3.2 with ⟨_, h0⟩ | ⟨g, cap, cur, rfl, _, hrow, _, _, _, htk⟩
  · omega
  · refine ⟨g, cap, xs.getD i 0, q, p, c.length, ca', cell_in h1 (i := 1) rfl, hrow.cell ?_, cell_in g1 (i := 0) rfl, hc, by have := hq 0 hc; rw [Nat.add_zero] at this; exact this⟩
    have e := congrArg (fun l => l[i]?) htk
    simp only [List.getElem?_take_of_lt hi] at e
    rw [← Array.getElem?_toList, e]
    simp [List.getD, show i < xs.length by omega]
end Go.Proofs.Ytbjpfnafhhbmaaa.Rad
