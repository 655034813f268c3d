/- Slices whose row is known whole: append, copy, make. -/
import Derived.Test.YtcoepekoacpgnaaDoorBase
import Derived.Laws.AppendOwn
import Derived.Laws.CopyRow
import Derived.IntWalk
import Derived.Laws.MakeOwn
namespace Go.Proofs.YtcoepekoacpgnaaDoor
set_option linter.unusedVariables false
set_option linter.unusedSimpArgs false
open Go.RowKit

/-- What is known behind an append: the value, its row, and that only the old row may have been written. -/
def Appended (w : World) (e : TypeId) (size : Nat) (g : Option Nat) (olds news : List Value) (n : Nat) (v : Value) (w' : World) : Prop :=
  ∃ g' cap' cur', v = .slice (some ⟨g', 0, none⟩) n cap' ∧ RowAt w' g' e cur' ∧ cur'.size = cap' * size ∧ n ≤ cap' ∧ cap' ≤ maxLen ∧
    cur'.toList.take (n * size) = olds ++ news ∧ (some g' = g ∨ w.heap.size ≤ g') ∧ Chg (fun k => some k = g) w w'

section
variable {P : Program} (w : World)
theorem append_grown (g : Option Nat) (e : TypeId) (size : Nat) (z : Value) (hzs : z.cells.size = size) (olds news : List Value) (n old : Nat) (hl : (olds ++ news).length = n * size) (hm : n ≤ maxLen) :
    Appended w e size g olds news n (.slice (some ⟨w.heap.size, 0, none⟩) n (grownCap w n old e))
      (w.drew.alloc (.cells (olds.toArray ++ news.toArray ++ Builtin.zeroCells z.cells (grownCap w n old e - n)) e)) := by
  have hge := grownCap_ge w n old e
  refine ⟨w.heap.size, grownCap w n old e, _, rfl, .of (heap_alloc_new w.drew _), ?_, hge, grownCap_le_maxLen w n old e hm, ?_, .inr (Nat.le_refl _), (Chg.drew _ w).trans (Chg.alloc _ _ _) fun _ h _ => h⟩
  · have : (olds.toArray ++ news.toArray).size = n * size := by simpa using hl
    rw [Array.size_append, this, size_zeroCells, hzs, ← Nat.add_mul]; congr 1; omega
  · simp only [Array.toList_append, ← hl]
    exact List.take_left

theorem run_storeCells_row (g o : Nat) (t : TypeId) : ∀ (vs : List Value) (i : Nat) (cur : Array Value) (w : World), RowAt w g t cur → o + i + vs.length ≤ cur.size → (∀ v ∈ vs, v.oneCell' = true) →
    (storeCells ⟨g, o, none⟩ vs i).run P w = .ok () (w.setRow g (cur.toList.take (o + i) ++ vs ++ cur.toList.drop (o + i + vs.length)).toArray)
  | [], i, cur, w, hg, _, _ => by
    simp only [storeCells, List.append_nil, List.length_nil, Nat.add_zero, List.take_append_drop, Array.toArray_toList]
    rw [hg.setSame]
    rfl
  | v :: rest, i, cur, w, hg, hl, h1 => by
    have hlt : o + i < cur.size := by simp at hl; omega
    have hc := hg.cell (i := o + i) (v := cur[o + i]) (by simp [hlt])
    have hf := hg.free hlt
    have h1v := h1 v (by simp)
    have hst : (store (Addr.add ⟨g, o, none⟩ i) v).run P w = .ok () (w.setRow g (cur.setIfInBounds (o + i) v)) := by
      rw [Addr.add_lit, ← hg.setCell]
      unfold store
      cases v <;> simp_all [Sem.run, Value.oneCell']
    have ih := run_storeCells_row g o t rest (i + 1) (cur.setIfInBounds (o + i) v) (w.setRow g (cur.setIfInBounds (o + i) v)) (hg.setRow (by simp)) (by simp at hl ⊢; omega) (fun u hu => h1 u (by simp [hu]))
    simp only [storeCells, Sem.run_bind, hst, Result.andThen_ok, ih, setRow_setRow]
    congr 3
    have e := list_seg_step cur.toList (o + i) v rest (by simp at hl ⊢; omega)
    simpa [Array.toList_setIfInBounds, Nat.add_assoc] using e

/-- 'append(s, x...)', both slices; s not nil, its row known. -/
theorem run_append_row (t ty e : TypeId) (i : TypeInfo) (z : Value) (size bytes : Nat) (ht : P.underlying t = some (.slice e)) (hi : P.info? e = some i) (hz : i.zero = some z)
    (hsize : i.size = size) (hby : i.bytes = bytes) (hzs : z.cells.size = size)
    (g n cap : Nat) (cur : Array Value) (hg : RowAt w g e cur) (hcs : cur.size = cap * size) (hnc : n ≤ cap) (hcm : cap ≤ maxLen)
    (a : Addr) (m c : Nat) (news : List Value) (hl : news.length = m * size) (hnews : ∀ j u, news[j]? = some u → w.cell? (a.add j) = some u) (h1 : ∀ u ∈ news, u.oneCell' = true)
    (h63 : n + m ≤ maxLen) (hbytes : (n + m) * bytes ≤ 140737488355328) :
    ∃ v w', (Builtin.append_ #[t, t] ty #[.slice (some ⟨g, 0, none⟩) n cap, .slice (some a) m c]).run P w = .ok v w' ∧ Appended w e size (some g) (cur.toList.take (n * size)) news (n + m) v w' := by
  subst hsize
  subst hby
  have hol : (cur.toList.take (n * i.size)).length = n * i.size := by
    rw [List.length_take, Array.length_toList, hcs, Nat.min_eq_left (Nat.mul_le_mul_right _ hnc)]
  have hlen : (cur.toList.take (n * i.size) ++ news).length = (n + m) * i.size := by rw [List.length_append, hol, hl, Nat.add_mul]
  by_cases hroom : n + m ≤ cap
  · have hfit : n * i.size + news.length ≤ cur.size := by rw [hl, hcs, ← Nat.add_mul]; exact Nat.mul_le_mul_right _ hroom
    have hf := run_firstCells_some (P := P) w i.size m a m c news hl hnews
    have hst := run_storeCells_row (P := P) g (n * i.size) e news 0 cur w hg (by simpa using hfit) h1
    simp only [Nat.add_zero] at hst
    have hr : (Builtin.append_ #[t, t] ty #[.slice (some ⟨g, 0, none⟩) n cap, .slice (some a) m c]).run P w =
      .ok (.slice (some ⟨g, 0, none⟩) (n + m) cap) (w.setRow g (cur.toList.take (n * i.size) ++ news ++ cur.toList.drop (n * i.size + news.length)).toArray) := by
      simp [Builtin.append_, run_underlying ht, sizeOf, typeInfo, hi, Builtin.lenOf, hroom, hf, Addr.add_lit, hst]
    refine ⟨_, _, hr, g, cap, _, rfl, hg.setRow (by simp; omega), ?_, hroom, hcm, ?_, .inl rfl, Chg.setRow _ _ _ _ rfl⟩
    · simp only [List.size_toArray, List.length_append, List.length_take, List.length_drop, Array.length_toList]; omega
    · show (cur.toList.take (n * i.size) ++ news ++ cur.toList.drop (n * i.size + news.length)).take ((n + m) * i.size) = _
      rw [← hlen]; exact List.take_left
  · have holds : ∀ j u, (cur.toList.take (n * i.size))[j]? = some u → w.cell? ((⟨g, 0, none⟩ : Addr).add j) = some u := fun j u hu => by
      have hadd : (⟨g, 0, none⟩ : Addr).add j = ⟨g, j, none⟩ := by unfold Addr.add; split <;> simp_all
      rw [hadd]
      refine hg.cell ?_
      rw [List.getElem?_take] at hu
      split at hu
      · simpa using hu
      · cases hu
    have hr := run_append_grow (P := P) w t ty e i z ht hi hz ⟨g, 0, none⟩ n cap _ hol holds a m c news hl hnews (by omega) (by simp only [maxLen] at h63; omega) (growslice_fits (by omega) hbytes)
    exact ⟨_, _, hr, append_grown w (some g) e i.size z hzs _ _ _ _ hlen h63⟩

/-- 'append(nil, x...)'. -/
theorem run_append_row_nil (t ty e : TypeId) (i : TypeInfo) (z : Value) (size bytes : Nat) (ht : P.underlying t = some (.slice e)) (hi : P.info? e = some i) (hz : i.zero = some z)
    (hsize : i.size = size) (hby : i.bytes = bytes) (hzs : z.cells.size = size)
    (a : Addr) (m c : Nat) (news : List Value) (hm : 0 < m) (hl : news.length = m * size) (hnews : ∀ j u, news[j]? = some u → w.cell? (a.add j) = some u)
    (h63 : m ≤ maxLen) (hbytes : m * bytes ≤ 140737488355328) :
    ∃ v w', (Builtin.append_ #[t, t] ty #[.slice none 0 0, .slice (some a) m c]).run P w = .ok v w' ∧ Appended w e size none [] news m v w' := by
  subst hsize
  subst hby
  have hr := run_append_nil (P := P) w t ty e i z ht hi hz a m c news hl hnews (by omega) (by simp only [maxLen] at h63; omega) (by omega)
  have := append_grown w none e i.size z hzs [] news m 0 (by simpa using hl) h63
  simp only [List.append_nil, List.nil_append, Array.empty_append] at this
  exact ⟨_, _, hr, this⟩

/-- 'append(b, make([]T, k)...)'. -/
theorem run_append_zeros (t t2 ty e : TypeId) (kk : IntKind) (i : TypeInfo) (z : Value) (bytes : Nat) (ht : P.underlying t = some (.slice e)) (ht2 : P.underlying t2 = some (.int kk)) (hi : P.info? e = some i) (hz : i.zero = some z)
    (hsize : i.size = 1) (hby : i.bytes = bytes) (hzs : z.cells = #[z]) (hz1 : z.oneCell' = true)
    (g n cap : Nat) (cur : Array Value) (hg : RowAt w g e cur) (hcs : cur.size = cap) (hnc : n ≤ cap) (hcm : cap ≤ maxLen)
    (m : Nat) (hm0 : 0 < m) (h63 : n + m ≤ maxLen) (hbytes : (n + m) * bytes ≤ 140737488355328) :
    ∃ v w', (Builtin.append_ #[t, t2] ty #[.slice (some ⟨g, 0, none⟩) n cap, .int .i64 m]).run P w = .ok v w' ∧ Appended w e 1 (some g) (cur.toList.take n) (List.replicate m z) (n + m) v w' := by
  subst hby
  have hw : IntKind.i64.wrap (m : Int) = m := IntWalk.i64_in _ ⟨by omega, by simp only [maxLen] at h63; omega⟩
  have hneg : ¬ (m : Int) < 0 := by omega
  have h48 : ¬ (281474976710656 < (m : Int) * i.bytes) := by
    have : m * i.bytes ≤ (n + m) * i.bytes := Nat.mul_le_mul_right _ (by omega)
    have h2 : ((m * i.bytes : Nat) : Int) ≤ 140737488355328 := by omega
    rw [Int.natCast_mul] at h2
    omega
  have hzc : ∀ k, Builtin.zeroCells z.cells k = (List.replicate k z).toArray := fun k => by
    unfold Builtin.zeroCells
    rw [hzs]
    apply Array.ext
    · simp
    · intro j h1 h2; simp [Nat.mod_one]
  have hol : (cur.toList.take n).length = n := by rw [List.length_take, Array.length_toList, hcs, Nat.min_eq_left hnc]
  by_cases hroom : n + m ≤ cap
  · have hst := run_storeCells_row (P := P) g n e (List.replicate m z) 0 cur w hg (by simp; omega) (by simp; exact fun _ => hz1)
    simp only [Nat.add_zero, List.length_replicate] at hst
    refine ⟨.slice (some ⟨g, 0, none⟩) (n + m) cap, w.setRow g (cur.toList.take n ++ List.replicate m z ++ cur.toList.drop (n + m)).toArray, ?_, g, cap, (cur.toList.take n ++ List.replicate m z ++ cur.toList.drop (n + m)).toArray, rfl, hg.setRow (by simp; omega), ?_, hroom, hcm, ?_, .inl rfl, Chg.setRow _ _ _ _ rfl⟩
    · simp [Builtin.append_, run_underlying ht, run_underlying ht2, sizeOf, typeInfo, hi, asInt, asIntOf, hw, hneg, h48, hroom, hsize, zeroValue, hz, hzc, Addr.add_lit, show m ≠ 0 by omega, hst]
    · simp; omega
    · show (cur.toList.take n ++ List.replicate m z ++ cur.toList.drop (n + m)).take ((n + m) * 1) = _
      have : (cur.toList.take n ++ List.replicate m z).length = (n + m) * 1 := by rw [List.length_append, hol]; simp
      rw [← this]; exact List.take_left
  · have hgr := append_grown w (some g) e 1 z (by rw [hzs]; rfl) (cur.toList.take n) (List.replicate m z) (n + m) cap (by rw [List.length_append, hol]; simp) h63
    refine ⟨_, _, ?_, hgr⟩
    have h63' : ¬ (9223372036854775807 < ((n : Int) + (m : Int))) := by simp only [maxLen] at h63; omega
    have h48' : ¬ (281474976710656 < Builtin.nextslicecap (n + m) cap * i.bytes) := by have := growslice_fits (old := cap) (show cap < n + m by omega) hbytes; omega
    have holds : ∀ j u, (cur.toList.take n)[j]? = some u → w.drew.cell? ((⟨g, 0, none⟩ : Addr).add j) = some u := fun j u hu => by
      have hadd : (⟨g, 0, none⟩ : Addr).add j = ⟨g, j, none⟩ := by unfold Addr.add; split <;> simp_all
      rw [hadd]
      refine (show RowAt w.drew g e cur from hg).cell ?_
      rw [List.getElem?_take] at hu
      split at hu
      · simpa using hu
      · cases hu
    have hfo := run_firstCells_some (P := P) w.drew 1 n ⟨g, 0, none⟩ n cap (cur.toList.take n) (by rw [hol]; omega) holds
    simp [Builtin.append_, run_underlying ht, run_underlying ht2, sizeOf, typeInfo, hi, asInt, asIntOf, hw, hneg, h48, hroom, hsize, zeroValue, hz, hzc, show m ≠ 0 by omega, h63', h48', Question.forced, newRow, grownCap, hfo]

/-- The row behind a copy. -/
def spliced (cur : Array Value) (o : Nat) (news : List Value) : Array Value := (cur.toList.take o ++ news ++ cur.toList.drop (o + news.length)).toArray
theorem spliced_size (cur : Array Value) (o : Nat) (news : List Value) (h : o + news.length ≤ cur.size) : (spliced cur o news).size = cur.size := by
  simp [spliced]; omega
theorem run_copy_row (t t2 ty e : TypeId) (i : TypeInfo) (ht : P.underlying t = some (.slice e)) (hi : P.info? e = some i) (hsize : i.size = 1)
    (g o dl dc : Nat) (cur : Array Value) (hg : RowAt w g e cur) (a : Addr) (sl sc n : Nat) (hn : n = min sl dl) (ho : o + n ≤ cur.size)
    (news : List Value) (hl : news.length = n) (hnews : ∀ j u, news[j]? = some u → w.cell? (a.add j) = some u) (h1 : ∀ u ∈ news, u.oneCell' = true) :
    (Builtin.copy_ #[t, t2] ty #[.slice (some ⟨g, o, none⟩) dl dc, .slice (some a) sl sc]).run P w = .ok (.int .i64 (n : Nat)) (w.setRow g (spliced cur o news)) := by
  have hf := run_firstCells_some (P := P) w 1 n a sl sc news (by omega) hnews
  have hst := run_storeCells_row (P := P) g o e news 0 cur w hg (by omega) h1
  simp only [Nat.add_zero] at hst
  have hmin : Nat.min sl dl = n := hn.symm
  simp [Builtin.copy_, run_underlying ht, sizeOf, typeInfo, hi, hsize, Builtin.lenOf, hmin, hf, hst, goInt, spliced]

theorem run_make_row (t e : TypeId) (i : TypeInfo) (z : Value) (bytes : Nat) (ht : P.underlying t = some (.slice e)) (hi : P.info? e = some i) (hz : i.zero = some z)
    (hsize : i.size = 1) (hby : i.bytes = bytes) (hzs : z.cells = #[z]) (n : Nat) (h63 : n ≤ maxLen) (hbytes : n * bytes ≤ 140737488355328) :
    (Instr.makeSlice t (.int .i64 n) (.int .i64 n)).run P w = .ok (.slice (some ⟨w.heap.size, 0, none⟩) n n) (w.alloc (.cells (List.replicate n z).toArray e)) := by
  subst hby
  have hb : (i.bytes : Int) * (n : Int) ≤ 281474976710656 := by
    have h2 : ((n * i.bytes : Nat) : Int) ≤ 140737488355328 := by omega
    rw [Int.natCast_mul, Int.mul_comm] at h2
    omega
  have h := run_make (P := P) w t e i z ht hi hz .i64 .i64 n n (by omega) (by omega) hb (by simp only [maxLen] at h63; omega)
  rw [h]
  simp only [Int.toNat_natCast, hsize, Nat.mul_one]
  congr 3
  unfold madeCells
  rw [hzs]
  apply Array.ext
  · simp
  · intro j h1 h2; simp [Nat.mod_one]

theorem exec_copy {w w' : World} {o : Oper} {ρ : Operand → Value} {s x : Operand} {t u : TypeId} {v : Value} (ho : o.op = .call { callee := .builtin .copy, args := #[s, x], argTypes := #[t, u] })
    (h : (Builtin.copy_ #[t, u] o.type #[ρ s, ρ x]).run P w = .ok v w') : (execOp ρ o).run P w = .ok (.value v) w' := by
  unfold execOp
  simp only [ho, resolve, invoke, builtin, Sem.run_bind, Sem.run_pure, Result.andThen_ok, List.map_toArray, List.map_cons, List.map_nil, h]
theorem exec_append {w w' : World} {o : Oper} {ρ : Operand → Value} {s x : Operand} {t u : TypeId} {v : Value} (ho : o.op = .call { callee := .builtin .append, args := #[s, x], argTypes := #[t, u] })
    (h : (Builtin.append_ #[t, u] o.type #[ρ s, ρ x]).run P w = .ok v w') : (execOp ρ o).run P w = .ok (.value v) w' := by
  unfold execOp
  simp only [ho, resolve, invoke, builtin, Sem.run_bind, Sem.run_pure, Result.andThen_ok, List.map_toArray, List.map_cons, List.map_nil, h]

theorem row_splice {cur : Array Value} {a b c news : List Value} (h : cur.toList = a ++ (b ++ c)) (hl : news.length = b.length) {o : Nat} (ho : o = a.length) : (spliced cur o news).toList = a ++ (news ++ c) := by
  subst ho
  show cur.toList.take a.length ++ news ++ cur.toList.drop (a.length + news.length) = _
  rw [h, hl, List.take_left, ← List.drop_drop, List.drop_left, List.drop_left, List.append_assoc]
theorem row_wrs {cur : Array Value} {a b c b' : List Value} (h : cur.toList = a ++ (b ++ c)) (hl : b'.length = b.length) {o : Nat} (ho : o = a.length) : (wrs cur o b').toList = a ++ (b' ++ c) := by
  subst ho
  have : cur = (a ++ (b ++ c)).toArray := by rw [← h]
  rw [this, wrs_list b' b a c hl]
theorem row_cells {w : World} {g : Nat} {cur : Array Value} {e : TypeId} (hg : RowAt w g e cur) {a b c : List Value} (h : cur.toList = a ++ (b ++ c)) {o : Nat} (ho : o = a.length) :
    ∀ j u, b[j]? = some u → w.cell? ((⟨g, o, none⟩ : Addr).add j) = some u := by
  subst ho
  intro j u hu
  rw [Addr.add_lit]
  refine hg.cell ?_
  rw [← Array.getElem?_toList, h, List.getElem?_append_right (by omega), show a.length + j - a.length = j by omega, List.getElem?_append_left (List.getElem?_eq_some_iff.1 hu).1]
  exact hu
theorem row_take {cur : Array Value} {n : Nat} {bs : List Value} (h : cur.toList.take n = bs) : ∃ R, cur.toList = bs ++ R :=
  ⟨cur.toList.drop n, by rw [← h, List.take_append_drop]⟩
end
end Go.Proofs.YtcoepekoacpgnaaDoor
