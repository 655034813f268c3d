/- Slices that a call has made itself, of elements of one cell. -/
import Derived.Test.YtcoepekoacpgnaaDoorSlc
import Derived.Test.YtcoepekoacpgnaaDoorArgs
namespace Go.Proofs.YtcoepekoacpgnaaDoor
set_option linter.unusedVariables false
set_option linter.unusedSimpArgs false
open Go.RowKit
/-- The slice value v holds n elements xs; its row lies in a block from B on. -/
def SliceIs (w : World) (B : Nat) (e : TypeId) (v : Value) (n : Nat) (xs : List Value) : Prop :=
  xs.length = n ∧ ((v = .slice none 0 0 ∧ n = 0) ∨ ∃ g cap cur, v = .slice (some ⟨g, 0, none⟩) n cap ∧ B ≤ g ∧ RowAt w g e cur ∧ cur.size = cap ∧ n ≤ cap ∧ cap ≤ maxLen ∧ cur.toList.take n = xs)
theorem SliceIs.nil (w : World) (B : Nat) (e : TypeId) : SliceIs w B e (.slice none 0 0) 0 [] := ⟨rfl, .inl ⟨rfl, rfl⟩⟩
section
variable {w : World} {B : Nat} {e : TypeId} {v : Value} {n : Nat} {xs : List Value}
theorem SliceIs.below (h : SliceIs w B e v n xs) {w' : World} (hb : Below w.heap.size w w') : SliceIs w' B e v n xs := by
  refine ⟨h.1, h.2.imp id ?_⟩
  rintro ⟨g, cap, cur, h1, h2, h3, h4⟩
  exact ⟨g, cap, cur, h1, h2, h3.keep (Chg.of_below (fun _ => False) hb) id, h4⟩
theorem SliceIs.arg (h : SliceIs w B e v n xs) : ∃ a cap, v = .slice a n cap ∧ ArgRow w a n cap (fun i => xs.getD i undef) := by
  rcases h.2 with ⟨rfl, rfl⟩ | ⟨g, cap, cur, rfl, _, h3, h4, h5, _, h7⟩
  · exact ⟨none, 0, rfl, Nat.le_refl _, .inl rfl⟩
  · refine ⟨some ⟨g, 0, none⟩, cap, rfl, h5, .inr ⟨g, 0, rfl, fun i hi => ?_⟩⟩
    have hx : xs[i]? = cur[i]? := by
      rw [← h7, List.getElem?_take_of_lt hi, Array.getElem?_toList]
    have hlt : i < xs.length := by rw [h.1]; exact hi
    rw [Nat.zero_add, h3.cell (v := xs.getD i undef) (by rw [← hx]; simp [List.getD, hlt])]
theorem run_append_local {P : Program} {t ty : TypeId} {i : TypeInfo} {z : Value} {bytes : Nat} (ht : P.underlying t = some (.slice e)) (hi : P.info? e = some i) (hz : i.zero = some z)
    (hsize : i.size = 1) (hby : i.bytes = bytes) (hzs : z.cells.size = 1) (h : SliceIs w B e v n xs) (hB : B ≤ w.heap.size)
    (a : Addr) (m c : Nat) (news : List Value) (hm : 0 < m) (hl : news.length = m) (hnews : ∀ j u, news[j]? = some u → w.cell? (a.add j) = some u) (h1 : ∀ u ∈ news, u.oneCell' = true)
    (h63 : n + m ≤ maxLen) (hbytes : (n + m) * bytes ≤ 140737488355328) :
    ∃ v' w', (Builtin.append_ #[t, t] ty #[v, .slice (some a) m c]).run P w = .ok v' w' ∧ SliceIs w' B e v' (n + m) (xs ++ news) ∧ Below B w w' := by
  have fin : ∀ (g : Option Nat) (olds : List Value) v' w', (∀ k, g = some k → B ≤ k) → olds = xs → Appended w e 1 g olds news (n + m) v' w' → SliceIs w' B e v' (n + m) (xs ++ news) ∧ Below B w w' := by
    rintro g olds v' w' hg rfl ⟨g', cap', cur', rfl, q1, q2, q3, q4, q5, q6, q7⟩
    refine ⟨⟨by rw [List.length_append, h.1, hl], .inr ⟨g', cap', cur', rfl, ?_, q1, by omega, q3, q4, by rw [← q5, Nat.mul_one]⟩⟩, belowChg (Below.refl _ _) q7 hB fun k hk _ => hg k hk.symm⟩
    rcases q6 with q6 | q6
    · exact hg g' q6.symm
    · omega
  rcases h.2 with ⟨rfl, rfl⟩ | ⟨g, cap, cur, rfl, h2, h3, h4, h5, h6, h7⟩
  · obtain ⟨v', w', hr, hp⟩ := run_append_row_nil (P := P) w t ty e i z 1 bytes ht hi hz hsize hby hzs a m c news hm (by omega) hnews (by omega) (by simpa using hbytes)
    have hx : [] = xs := (List.eq_nil_of_length_eq_zero h.1).symm
    refine ⟨v', w', hr, fin none [] v' w' (by simp) hx ?_⟩
    rw [Nat.zero_add]; exact hp
  · obtain ⟨v', w', hr, hp⟩ := run_append_row (P := P) w t ty e i z 1 bytes ht hi hz hsize hby hzs g n cap cur h3 (by omega) h5 h6 a m c news (by omega) hnews h1 h63 hbytes
    exact ⟨v', w', hr, fin (some g) _ v' w' (fun k hk => by cases hk; exact h2) (by rw [Nat.mul_one]; exact h7) hp⟩
/-- One element more, which the call has laid in a block of its own. -/
theorem run_append_one {P : Program} {t ty : TypeId} {i : TypeInfo} {z : Value} {bytes : Nat} (ht : P.underlying t = some (.slice e)) (hi : P.info? e = some i) (hz : i.zero = some z)
    (hsize : i.size = 1) (hby : i.bytes = bytes) (hzs : z.cells.size = 1) (h : SliceIs w B e v n xs) (hB : B ≤ w.heap.size) (u : Value) (hu : u.oneCell' = true)
    (h63 : n + 1 ≤ maxLen) (hbytes : (n + 1) * bytes ≤ 140737488355328) :
    ∃ v' w', (Builtin.append_ #[t, t] ty #[v, .slice (some ⟨w.heap.size, 0, none⟩) 1 1]).run P (w.alloc (.cells #[u] e)) = .ok v' w' ∧ SliceIs w' B e v' (n + 1) (xs ++ [u]) ∧ Below B w w' := by
  have hb : Below w.heap.size w (w.alloc (.cells #[u] e)) := (Below.refl _ _).alloc (Nat.le_refl _) _
  obtain ⟨v', w', hr, h2, h3⟩ := run_append_local (P := P) (ty := ty) ht hi hz hsize hby hzs (h.below hb) (by simp; omega) ⟨w.heap.size, 0, none⟩ 1 1 [u] (by omega) rfl (fun j x hx => by
    have hj : j = 0 := by have := (List.getElem?_eq_some_iff.1 hx).1; simpa using this
    subst hj
    rw [Addr.add_lit]
    refine cell_in (heap_new w _) ?_
    simpa using hx) (by simpa using hu) h63 hbytes
  exact ⟨v', w', hr, h2, (hb.mono hB).trans h3⟩
end
/-- An append in a region that does not draw, its run known. -/
theorem wpList_append_run {P : Program} {ops : Array Oper} {Q : Exit → Act → World → Prop} {rest : List Oper} {o : Oper} {a : Act} {w w' : World} {s x : Operand} {t u : TypeId} {v : Value} (hg : o.guard = none)
    (ho : o.op = .call { callee := .builtin .append, args := #[s, x], argTypes := #[t, u] }) (hr : (Builtin.append_ #[t, u] o.type #[a.eval s, a.eval x]).run P w = .ok v w')
    (h : wpList P ops Q rest (a.put o.dst v) w') : wpList P ops Q (o :: rest) a w :=
  wpList_plain hg fun K hK => by unfold Oper.wp; rw [exec_append ho hr]; exact hK _ _ h
end Go.Proofs.YtcoepekoacpgnaaDoor
