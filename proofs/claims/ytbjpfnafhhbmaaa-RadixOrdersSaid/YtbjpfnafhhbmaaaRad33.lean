/- radix: what From collects, in plain Lean and in memory. -/
import Derived.Test.YtbjpfnafhhbmaaaRad31
import Derived.Test.YtbjpfnafhhbmaaaRad32
import Derived.Sort.Walk0
namespace Go.Proofs.Ytbjpfnafhhbmaaa.Rad
open Go.Proofs.Ytbjpfnafhhbmaaa
set_option linter.unusedVariables false
set_option linter.unusedSimpArgs false
open Go.RowKit RT
/-- The things from some bytes on. -/
def fromL (L : List UInt8) (l : List (List UInt8 × VT)) : List (List UInt8 × VT) := l.filter fun p => !decide (p.1 < L)
def pref (b : List UInt8) (l : List (List UInt8 × VT)) : List (List UInt8 × VT) := l.map fun p => (b ++ p.1, p.2)
theorem pref_append (a b : List UInt8) (l : List (List UInt8 × VT)) : pref a (pref b l) = pref (a ++ b) l := by
  simp [pref, List.map_map, Function.comp_def]
/-- An entry's cells. -/
def entC (p : List UInt8 × VT) : List Value := [.int .u64 (valB (p.1.take 8) : Nat), .int .u64 (valB (p.1.drop 8) : Nat), vC p.2]
theorem lt_ahead : ∀ {a L : List UInt8} (s : List UInt8), a.length ≤ L.length → a < L.take a.length → a ++ s < L
  | [], L, s, _, h => by simp at h
  | x :: a, [], s, hl, _ => by simp at hl
  | x :: a, y :: L, s, hl, h => by
    simp only [List.length_cons, List.take_succ_cons, List.cons_append] at h ⊢
    rw [List.cons_lt_cons_iff] at h ⊢
    rcases h with h | ⟨rfl, h⟩
    · exact .inl h
    · exact .inr ⟨rfl, lt_ahead s (by simpa using hl) h⟩
theorem fromL_none {L b : List UInt8} (l : List (List UInt8 × VT)) (hl : b.length ≤ L.length) (h : b < L.take b.length) : fromL L (pref b l) = [] := by
  unfold fromL pref
  rw [List.filter_eq_nil_iff]
  intro p hp
  obtain ⟨q, _, rfl⟩ := List.mem_map.1 hp
  simp [lt_ahead q.1 hl h]
theorem fromL_append (L : List UInt8) (a b : List (List UInt8 × VT)) : fromL L (a ++ b) = fromL L a ++ fromL L b := by simp [fromL]
theorem pref_apd (b : List UInt8) (l m : List (List UInt8 × VT)) : pref b (l ++ m) = pref b l ++ pref b m := by simp [pref]
theorem itemsS_succ : ∀ {l : List RT} {i : Nat} (h : i < l.length), RT.itemsS (l.take (i + 1)) = RT.itemsS (l.take i) ++ RT.items l[i]
  | t :: l, 0, _ => by simp [RT.itemsS]
  | t :: l, i + 1, h => by
    have := itemsS_succ (l := l) (i := i) (by simpa using h)
    simp only [List.take_succ_cons, RT.itemsS, List.getElem_cons_succ, this, List.append_assoc]
theorem items_le {u : RT} : (RT.items u).length ≤ RT.nodes u := key u.nodes u (Nat.le_refl _)
where
  key : ∀ (m : Nat) (u : RT), RT.nodes u ≤ m → (RT.items u).length ≤ RT.nodes u
  | 0, .mk b v k, h => by rw [RT.nodes] at h; omega
  | m + 1, .mk b v k, h => by
    rw [RT.items]
    rw [RT.nodes] at h ⊢
    split
    · simp
    · rw [List.length_map]
      have : ∀ l : List RT, RT.nodesS l ≤ m → (RT.itemsS l).length ≤ RT.nodesS l := by
        intro l
        induction l with
        | nil => simp [RT.itemsS]
        | cons t l ih =>
          intro hl
          simp only [RT.nodesS] at hl ⊢
          rw [RT.itemsS, List.length_append]
          have h1 := key m t (by omega)
          have h2 := ih (by omega)
          omega
      have := this k (by omega)
      omega
theorem valB_inj {a b : List UInt8} (hl : a.length = b.length) (h : valB a = valB b) : a = b := by
  have h1 : ¬ a < b := fun h' => by have := (lt_valB hl).1 h'; omega
  have h2 : ¬ b < a := fun h' => by have := (lt_valB hl.symm).1 h'; omega
  exact List.le_antisymm (List.not_lt.1 h2) (List.not_lt.1 h1)
theorem be_valB {a : List UInt8} (h : a.length = 8) : beB (valB a) 8 = a := by
  have hlt := valB_lt64 a (by omega)
  exact valB_inj (by simp [h]) (valB_be _ hlt)
theorem id_valB {a : List UInt8} (h : a.length = 16) : idBytes (valB (a.take 8)) (valB (a.drop 8)) = a := by
  unfold idBytes
  rw [be_valB (by simp; omega), be_valB (by simp; omega), List.take_append_drop]
/-- 'append(begin[:len(begin):len(begin)], x.begin...)'. -/
theorem append_begin {w : World} {a ax : Option Addr} {pre b : List UInt8} {n m c cx : Nat} (hp : BytesIn w a pre c) (hb : BytesIn w ax b cx) (hn : pre.length = n) (hm : b.length = m) (hle : n + m ≤ 100000) (hz : pre = [] → a = none) (h0 : pre = [] ∨ b ≠ []) :
    ∃ a2 c2 w1, (Builtin.append_ #[42, 42] 42 #[.slice a n n, .slice ax m cx]).run Try.prog w = .ok (.slice a2 (n + m) c2) w1 ∧ Below w.heap.size w w1 ∧ BytesIn w1 a2 (pre ++ b) c2 ∧ (∀ g o, a2 = some ⟨g, o, none⟩ → w.heap.size ≤ g) ∧ (pre ++ b = [] → a2 = none) := by
  rcases Nat.eq_zero_or_pos m with h | h
  · have hb0 : b = [] := List.eq_nil_of_length_eq_zero (by omega)
    have hp0 : pre = [] := h0.resolve_right fun h => h hb0
    subst hb0 hp0
    have := hz rfl
    subst this
    have hn0 : n = 0 := by simpa using hn.symm
    subst hn0
    subst h
    obtain ⟨i0, g1, g2, g3, g4⟩ := info_parts info_u8
    refine ⟨none, 0, w, ?_, Below.refl _ _, ⟨by simp, .inl rfl⟩, fun g o h => (by cases h), fun _ => rfl⟩
    cases ax with
    | none => simp [Builtin.append_, run_underlying Try.underlying42, sizeOf, typeInfo, g1, g2, g3, g4, Builtin.lenOf, Builtin.firstCells]
    | some A =>
      have hL := run_loadCells_list (P := Try.prog) w A [] (by simp)
      rw [List.length_nil] at hL
      simp [Builtin.append_, run_underlying Try.underlying42, sizeOf, typeInfo, g1, g2, g3, g4, Builtin.lenOf, Builtin.firstCells, hL]
  · obtain ⟨v', w', hr, hs, hbl⟩ := run_append_fresh hp hb hn hm h (by omega)
    obtain ⟨a2, c2, rfl, hbi⟩ := slice_bytes hs
    obtain ⟨g', cap', cur', he, hg', _⟩ := hs.2.resolve_left (by simp; omega)
    cases he
    refine ⟨_, _, w', hr, hbl, hbi, fun g o h => by cases h; exact hg', fun h => ?_⟩
    have := congrArg List.length h
    rw [List.length_append, List.length_nil] at this
    omega
end Go.Proofs.Ytbjpfnafhhbmaaa.Rad
