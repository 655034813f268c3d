/- Appending a string's bytes, or another slice, to bytes that a call has made. -/
import Derived.Test.YtcoepekoacpgnaaDoorCom
import Derived.Lib.AppendStr
namespace Go.Proofs.YtcoepekoacpgnaaDoor
set_option linter.unusedVariables false
set_option linter.unusedSimpArgs false
open Go.RowKit
section
variable {P : Program} {w : World} {e : TypeId}
theorem run_append_row_str {t u ty : TypeId} {i : TypeInfo} {z : Value} (ht : P.underlying t = some (.slice e)) (hu : P.underlying u = some .string) (hi : P.info? e = some i) (hz : i.zero = some z)
    (hsize : i.size = 1) (hby : i.bytes = 1) (hzs : z.cells.size = 1)
    (g n cap : Nat) (cur : Array Value) (hg : RowAt w g e cur) (hcs : cur.size = cap) (hnc : n ≤ cap) (hcm : cap ≤ maxLen) (s : ByteArray)
    (h63 : n + s.size ≤ maxLen) (hbytes : n + s.size ≤ 140737488355328) :
    ∃ v w', (Builtin.append_ #[t, u] ty #[.slice (some ⟨g, 0, none⟩) n cap, .string s]).run P w = .ok v w' ∧ Appended w e 1 (some g) (cur.toList.take n) (Lib.strCells s) (n + s.size) v w' := by
  have hol : (cur.toList.take n).length = n := by rw [List.length_take, Array.length_toList, hcs, Nat.min_eq_left hnc]
  have hsl := Lib.strCells_length s
  by_cases hroom : n + s.size ≤ cap
  · have hf := Lib.run_firstCells_string (P := P) w 1 s
    have hst := run_storeCells_row (P := P) g n e (Lib.strCells s) 0 cur w hg (by omega) (Lib.strCells_oneCell s)
    simp only [Nat.add_zero, hsl] at hst
    have hr : (Builtin.append_ #[t, u] ty #[.slice (some ⟨g, 0, none⟩) n cap, .string s]).run P w = .ok (.slice (some ⟨g, 0, none⟩) (n + s.size) cap) (w.setRow g (cur.toList.take n ++ Lib.strCells s ++ cur.toList.drop (n + s.size)).toArray) := by
      simp [Builtin.append_, run_underlying ht, run_underlying hu, sizeOf, typeInfo, hi, hsize, Builtin.lenOf, hroom, hf, Addr.add_lit, hst]
    refine ⟨_, _, hr, g, cap, _, rfl, hg.setRow (by simp; omega), ?_, hroom, hcm, ?_, .inl rfl, Chg.setRow _ _ _ _ rfl⟩
    · simp only [List.size_toArray, List.length_append, List.length_take, List.length_drop, Array.length_toList]; omega
    · show (cur.toList.take n ++ Lib.strCells s ++ cur.toList.drop (n + s.size)).take ((n + s.size) * 1) = _
      have : (cur.toList.take n ++ Lib.strCells s).length = (n + s.size) * 1 := by rw [List.length_append, hol, hsl]; omega
      rw [← this]; exact List.take_left
  · have holds : ∀ j u, (cur.toList.take n)[j]? = some u → w.cell? ((⟨g, 0, none⟩ : Addr).add j) = some u := fun j u hu => by
      rw [Addr.add_lit, Nat.zero_add]
      refine hg.cell ?_
      rw [List.getElem?_take] at hu
      split at hu
      · simpa using hu
      · cases hu
    have hr := Lib.run_append_grow_string (P := P) w t u ty e i z ht hu hi hz ⟨g, 0, none⟩ n cap (cur.toList.take n) (by rw [hsize, hol]; omega) holds s (by omega) (by simp only [maxLen] at h63; omega) (by rw [hby]; exact growslice_fits (by omega) (by omega))
    exact ⟨_, _, hr, append_grown w (some g) e 1 z hzs _ _ _ _ (by rw [List.length_append, hol, hsl]; omega) h63⟩
/-- 'append(b, s...)', b of the call's own making. -/
theorem append_str_local {B : Nat} {v : Value} {n : Nat} {xs : List Value} {t u ty : TypeId} {i : TypeInfo} {z : Value} (ht : P.underlying t = some (.slice e)) (hu : P.underlying u = some .string) (hi : P.info? e = some i) (hz : i.zero = some z)
    (hsize : i.size = 1) (hby : i.bytes = 1) (hzs : z.cells.size = 1) (h : SliceIs w B e v n xs) (hB : B ≤ w.heap.size) (hn : 0 < n) (s : ByteArray) (hb : n + s.size ≤ 1000000000) :
    ∃ v' w', (Builtin.append_ #[t, u] ty #[v, .string s]).run P w = .ok v' w' ∧ SliceIs w' B e v' (n + s.size) (xs ++ Lib.strCells s) ∧ Below B w w' := by
  rcases h.2 with ⟨rfl, rfl⟩ | ⟨g, cap, cur, rfl, h2, h3, h4, h5, h6, h7⟩
  · omega
  · obtain ⟨v', w', hr, g', cap', cur', rfl, q1, q2, q3, q4, q5, q6, q7⟩ := run_append_row_str (P := P) (ty := ty) ht hu hi hz hsize hby hzs g n cap cur h3 h4 h5 h6 s (by unfold maxLen; omega) (by omega)
    refine ⟨_, w', hr, ⟨by rw [List.length_append, h.1, Lib.strCells_length], .inr ⟨g', cap', cur', rfl, ?_, q1, by omega, q3, q4, by rw [Nat.mul_one] at q5; rw [q5, h7]⟩⟩, belowChg (Below.refl _ _) q7 hB fun k hk _ => by cases hk; exact h2⟩
    rcases q6 with q6 | q6
    · cases q6; exact h2
    · omega
/-- 'append(a, b...)', both of the call's own making. -/
theorem append_two_local {B B2 : Nat} {v v2 : Value} {n m : Nat} {xs ys : List Value} {t ty : TypeId} {i : TypeInfo} {z : Value} (ht : P.underlying t = some (.slice e)) (hi : P.info? e = some i) (hz : i.zero = some z)
    (hsize : i.size = 1) (hby : i.bytes = 1) (hzs : z.cells.size = 1) (h : SliceIs w B e v n xs) (hB : B ≤ w.heap.size) (h2 : SliceIs w B2 e v2 m ys) (hm : 0 < m) (h1 : ∀ y ∈ ys, y.oneCell' = true) (hb : n + m ≤ 1000000000) :
    ∃ v' w', (Builtin.append_ #[t, t] ty #[v, v2]).run P w = .ok v' w' ∧ SliceIs w' B e v' (n + m) (xs ++ ys) ∧ Below B w w' := by
  obtain ⟨a, c, rfl, harg⟩ := h2.arg
  obtain ⟨b, o, rfl, hc⟩ := harg.2.resolve_left (by omega)
  refine run_append_local (P := P) ht hi hz hsize hby hzs h hB ⟨b, o, none⟩ m c ys hm h2.1 (fun j u hu => ?_) h1 (by unfold maxLen; omega) (by omega)
  obtain ⟨hlt, hu'⟩ := List.getElem?_eq_some_iff.1 hu
  rw [Addr.add_lit, hc j (by rw [← h2.1]; exact hlt)]
  simp only [List.getD, hu, Option.getD_some]
end
theorem append_bytes2 {w : World} {B B2 : Nat} {v v2 : Value} {n m : Nat} {xs ys : List UInt8} (h : SliceIs w B 5 v n (xs.map u8v)) (hB : B ≤ w.heap.size) (h2 : SliceIs w B2 5 v2 m (ys.map u8v)) (hm : 0 < m) (hb : n + m ≤ 1000000000) :
    ∃ v' w', (Builtin.append_ #[67, 67] 67 #[v, v2]).run Tryd.prog w = .ok v' w' ∧ SliceIs w' B 5 v' (n + m) ((xs ++ ys).map u8v) ∧ Below B w w' := by
  obtain ⟨i0, g1, g2, g3, g4⟩ := info_parts info_u8
  rw [List.map_append]
  exact append_two_local (P := Tryd.prog) Tryd.underlying67 g1 g2 g3 g4 rfl h hB h2 hm (by simp; intro x _; rfl) hb
theorem append_bytes_str {w : World} {B : Nat} {v : Value} {n : Nat} {xs : List UInt8} (h : SliceIs w B 5 v n (xs.map u8v)) (hB : B ≤ w.heap.size) (hn : 0 < n) (s : ByteArray) (hb : n + s.size ≤ 1000000000) :
    ∃ v' w', (Builtin.append_ #[67, 9] 67 #[v, .string s]).run Tryd.prog w = .ok v' w' ∧ SliceIs w' B 5 v' (n + s.size) ((xs ++ s.data.toList).map u8v) ∧ Below B w w' := by
  obtain ⟨i0, g1, g2, g3, g4⟩ := info_parts info_u8
  rw [List.map_append]
  exact append_str_local (P := Tryd.prog) Tryd.underlying67 Tryd.underlying9 g1 g2 g3 g4 rfl h hB hn s hb
/-- A slice literal's row. -/
theorem made_bytes {w : World} (xs : List UInt8) (vs : Array Value) (h : vs.toList = xs.map u8v) {n : Nat} (hn : xs.length = n) (hm : n ≤ 1000000000) : SliceIs (w.alloc (.cells vs 5)) w.heap.size 5 (.slice (some ⟨w.heap.size, 0, none⟩) n n) n (xs.map u8v) := by
  have hs : vs.size = n := by rw [← Array.length_toList, h, List.length_map, hn]
  exact ⟨by simp [hn], .inr ⟨w.heap.size, n, vs, rfl, Nat.le_refl _, .of (heap_new _ _), hs, Nat.le_refl _, by unfold maxLen; omega, by rw [h, List.take_of_length_le (by simp [hn])]⟩⟩
/-- A copy in a region that does not draw, its run known. -/
theorem wpList_copy_run {P : Program} {ops : Array Oper} {Q : Exit → Act → World → Prop} {rest : List Oper} {o : Oper} {a : Act} {w w' : World} {s x : Operand} {t u : TypeId} {v : Value} (hg : o.guard = none)
    (ho : o.op = .call { callee := .builtin .copy, args := #[s, x], argTypes := #[t, u] }) (hr : (Builtin.copy_ #[t, u] o.type #[a.eval s, a.eval x]).run P w = .ok v w')
    (h : wpList P ops Q rest (a.put o.dst v) w') : wpList P ops Q (o :: rest) a w :=
  wpList_plain hg fun K hK => by unfold Oper.wp; rw [exec_copy ho hr]; exact hK _ _ h
/-- A copy of bytes, maybe of none. -/
theorem copy_bytes {w : World} {g o dl dc : Nat} {cur : Array Value} (hg : RowAt w g 5 cur) (a : Option Addr) (xs : List UInt8) (n sc : Nat) (hn : xs.length = n) (hd : n ≤ dl) (ho : o + n ≤ cur.size)
    (h : n = 0 ∨ ∃ b q, a = some ⟨b, q, none⟩ ∧ ∀ i (hi : i < xs.length), w.cell? ⟨b, q + i, none⟩ = some (.int .u8 xs[i].toNat)) :
    (Builtin.copy_ #[67, 67] 3 #[.slice (some ⟨g, o, none⟩) dl dc, .slice a n sc]).run Tryd.prog w = .ok (.int .i64 (n : Nat)) (w.setRow g (spliced cur o (xs.map u8v))) := by
  obtain ⟨i0, g1, g2, g3, g4⟩ := info_parts info_u8
  cases a with
  | none =>
    have h0 : n = 0 := by
      rcases h with h | ⟨b, q, h, _⟩
      · exact h
      · cases h
    subst h0
    have hx : xs = [] := List.eq_nil_of_length_eq_zero hn
    subst hx
    have hs : spliced cur o ([].map u8v) = cur := by
      apply Array.toList_inj.1
      simp [spliced]
    rw [hs, hg.setSame]
    simp [Builtin.copy_, run_underlying Tryd.underlying67, sizeOf, typeInfo, g1, g3, Builtin.lenOf, Builtin.firstCells, goInt, storeCells]
  | some A =>
    refine run_copy_row (P := Tryd.prog) w _ _ _ _ i0 Tryd.underlying67 g1 g3 g o dl dc cur hg A n sc n (by omega) ho (xs.map u8v) (by simp [hn]) (fun j u hu => ?_) (by simp; intro x _; rfl)
    rw [List.getElem?_map] at hu
    cases hb : xs[j]? with
    | none => rw [hb] at hu; cases hu
    | some c =>
      rw [hb] at hu
      obtain ⟨hj, hcj⟩ := List.getElem?_eq_some_iff.1 hb
      obtain ⟨b, q, hab, hc⟩ := h.resolve_left (by omega)
      cases hab
      rw [Addr.add_lit, hc j hj, hcj]
      simpa using hu
/-- The bytes of a slice of the call's own making. -/
theorem SliceIs.arg_bytes {w : World} {B n : Nat} {a : Option Addr} {m c : Nat} {xs : List UInt8} (h : SliceIs w B 5 (.slice a m c) n (xs.map u8v)) (hn : 0 < n) : ∃ b o, a = some ⟨b, o, none⟩ ∧ ∀ i (hi : i < xs.length), w.cell? ⟨b, o + i, none⟩ = some (.int .u8 xs[i].toNat) := by
  obtain ⟨a', c', e, harg⟩ := h.arg
  cases e
  obtain ⟨b, o, e, hc⟩ := harg.2.resolve_left (by omega)
  refine ⟨b, o, e, fun i hi => ?_⟩
  have hl : xs.length = n := by simpa using h.1
  rw [hc i (by omega)]
  simp [List.getD, hi]
end Go.Proofs.YtcoepekoacpgnaaDoor
