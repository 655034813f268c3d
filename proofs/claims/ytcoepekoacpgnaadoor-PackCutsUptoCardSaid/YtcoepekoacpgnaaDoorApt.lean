/- Appending texts of a slice to texts that a call has made. -/
import Derived.Test.YtcoepekoacpgnaaDoorApd
namespace Go.Proofs.YtcoepekoacpgnaaDoor
set_option linter.unusedVariables false
set_option linter.unusedSimpArgs false
open Go.RowKit
abbrev strV (s : ByteArray) : Value := .string s
theorem run_append_none {P : Program} {w : World} {B : Nat} {e : TypeId} {v : Value} {n : Nat} {xs : List Value} {t ty : TypeId} {i : TypeInfo} (ht : P.underlying t = some (.slice e)) (hi : P.info? e = some i) (hsize : i.size = 1) (h : SliceIs w B e v n xs) (a : Option Addr) (c : Nat) :
    (Builtin.append_ #[t, t] ty #[v, .slice a 0 c]).run P w = .ok v w := by
  have hf : (Builtin.firstCells 1 0 (.slice a 0 c)).run P w = .ok #[] w := by
    cases a with
    | none => rfl
    | some A =>
      have hL := run_loadCells_list (P := P) w A [] (by simp)
      rw [List.length_nil] at hL
      simp [Builtin.firstCells, hL]
  rcases h.2 with ⟨rfl, rfl⟩ | ⟨g, cap, cur, rfl, h2, h3, h4, h5, h6, h7⟩
  · simp [Builtin.append_, run_underlying ht, sizeOf, typeInfo, hi, hsize, Builtin.lenOf, hf]
  · simp [Builtin.append_, run_underlying ht, sizeOf, typeInfo, hi, hsize, Builtin.lenOf, hf, h5, storeCells]
theorem info_str : (Tryd.prog.info? 9).map (fun i => (i.zero, i.size, i.bytes)) = some (some (.string ByteArray.empty), 1, 16) := by kernel_rfl
/-- 'append(l, m...)', l of the call's own making. -/
theorem append_texts {w : World} {B n m c : Nat} {v : Value} {xs ys : List ByteArray} {a : Option Addr} (h : SliceIs w B 9 v n (xs.map strV)) (hB : B ≤ w.heap.size) (hm : ys.length = m)
    (ha : m = 0 ∨ ∃ b o, a = some ⟨b, o, none⟩ ∧ ∀ i, i < m → w.cell? ⟨b, o + i, none⟩ = some (.string (ys.getD i ByteArray.empty))) (hs : n + m ≤ 1000000000) :
    ∃ v' w', (Builtin.append_ #[22, 22] 22 #[v, .slice a m c]).run Tryd.prog w = .ok v' w' ∧ SliceIs w' B 9 v' (n + m) ((xs ++ ys).map strV) ∧ Below B w w' := by
  obtain ⟨i0, g1, g2, g3, g4⟩ := info_parts info_str
  rcases Nat.eq_zero_or_pos m with h0 | h0
  · subst h0
    have hy : ys = [] := List.eq_nil_of_length_eq_zero hm
    subst hy
    exact ⟨v, w, run_append_none (P := Tryd.prog) Tryd.underlying22 g1 g3 h a c, by simpa using h, Below.refl _ _⟩
  · obtain ⟨b, o, rfl, hc⟩ := ha.resolve_left (by omega)
    rw [List.map_append]
    refine run_append_local (P := Tryd.prog) Tryd.underlying22 g1 g2 g3 g4 rfl h hB ⟨b, o, none⟩ m c (ys.map strV) h0 (by simp [hm]) (fun j u hu => ?_) (by simp; intro x _; rfl) (by unfold maxLen; omega) (by omega)
    rw [List.getElem?_map] at hu
    cases hb : ys[j]? with
    | none => rw [hb] at hu; cases hu
    | some s =>
      rw [hb] at hu
      obtain ⟨hj, hcj⟩ := List.getElem?_eq_some_iff.1 hb
      rw [Addr.add_lit, hc j (by omega)]
      simp only [List.getD, hb, Option.getD_some]
      simpa using hu
theorem texts_of_slice {w : World} {B n : Nat} {v : Value} {xs : List ByteArray} (h : SliceIs w B 9 v n (xs.map strV)) : ∃ a c, v = .slice a n c ∧ ArgRow w a n c (fun i => .string (xs.getD i ByteArray.empty)) := by
  obtain ⟨a, c, rfl, h1, h2⟩ := h.arg
  refine ⟨a, c, rfl, h1, h2.imp id ?_⟩
  rintro ⟨b, o, e, hc⟩
  refine ⟨b, o, e, fun i hi => ?_⟩
  have hl : xs.length = n := by simpa using h.1
  rw [hc i hi]
  simp [List.getD, show i < xs.length by omega]
end Go.Proofs.YtcoepekoacpgnaaDoor
