/- Slices that a call has made, of elements of so many cells. -/
import Derived.Test.YtbjpfnafhhbmaaaCom
namespace Go.Proofs.Ytbjpfnafhhbmaaa
set_option linter.unusedVariables false
set_option linter.unusedSimpArgs false
open Go.RowKit
/-- The slice value v holds n elements of z cells each, the cells xs; its row lies in a block from B on. -/
def SliceN (w : World) (B : Nat) (e : TypeId) (z : Nat) (v : Value) (n : Nat) (xs : List Value) : Prop :=
  xs.length = n * z ∧ ((v = .slice none 0 0 ∧ n = 0) ∨ ∃ g cap cur, v = .slice (some ⟨g, 0, none⟩) n cap ∧ B ≤ g ∧ RowAt w g e cur ∧ cur.size = cap * z ∧ n ≤ cap ∧ cap ≤ maxLen ∧ cur.toList.take (n * z) = xs)
theorem SliceN.nil (w : World) (B : Nat) (e : TypeId) (z : Nat) : SliceN w B e z (.slice none 0 0) 0 [] := ⟨by simp, .inl ⟨rfl, rfl⟩⟩
section
variable {w : World} {B : Nat} {e : TypeId} {z : Nat} {v : Value} {n : Nat} {xs : List Value}
theorem SliceN.chg (h : SliceN w B e z v n xs) {S : Nat → Prop} {w' : World} (hc : Chg S w w') (hn : ∀ k, vblock v = some k → ¬ S k) : SliceN w' B e z v n xs := by
  refine ⟨h.1, h.2.imp id ?_⟩
  rintro ⟨g, cap, cur, rfl, h2, h3, h4⟩
  exact ⟨g, cap, cur, rfl, h2, h3.keep hc (hn g rfl), h4⟩
theorem SliceN.below (h : SliceN w B e z v n xs) {w' : World} (hb : Below w.heap.size w w') : SliceN w' B e z v n xs := h.chg (Chg.of_below (fun _ => False) hb) fun _ _ => id
theorem SliceN.block_lt (h : SliceN w B e z v n xs) {k : Nat} (hk : vblock v = some k) : B ≤ k ∧ k < w.heap.size := by
  rcases h.2 with ⟨rfl, rfl⟩ | ⟨g, cap, cur, rfl, h2, h3, h4⟩
  · cases hk
  · cases hk; exact ⟨h2, h3.lt⟩
theorem SliceN.form (h : SliceN w B e z v n xs) : ∃ a cap, v = .slice a n cap ∧ n ≤ cap ∧ cap ≤ maxLen := by
  rcases h.2 with ⟨rfl, rfl⟩ | ⟨g, cap, cur, rfl, _, _, _, h5, h6, _⟩
  · exact ⟨none, 0, rfl, Nat.le_refl _, by unfold maxLen; omega⟩
  · exact ⟨_, cap, rfl, h5, h6⟩
theorem SliceN.mono (h : SliceN w B e z v n xs) {B' : Nat} (hB : B' ≤ B) : SliceN w B' e z v n xs := by
  refine ⟨h.1, h.2.imp id ?_⟩
  rintro ⟨g, cap, cur, rfl, h2, h3⟩
  exact ⟨g, cap, cur, rfl, Nat.le_trans hB h2, h3⟩
/-- A cell of it. -/
theorem SliceN.cell (h : SliceN w B e z v n xs) {g c m : Nat} (hv : v = .slice (some ⟨g, 0, none⟩) m c) {i : Nat} (hi : i < n * z) : w.cell? ⟨g, i, none⟩ = some (xs.getD i undef) := by
  rcases h.2 with ⟨rfl, rfl⟩ | ⟨g', cap, cur, rfl, _, h3, h4, h5, h6, h7⟩
  · cases hv
  · cases hv
    refine h3.cell ?_
    have e := congrArg (fun l => l[i]?) h7
    simp only [List.getElem?_take_of_lt hi, Array.getElem?_toList] at e
    have hl : i < xs.length := by rw [h.1]; exact hi
    rw [e]; simp [List.getD, hl]
theorem run_append_ownN {P : Program} {t ty : TypeId} {i : TypeInfo} {z0 : Value} {bytes : Nat} (ht : P.underlying t = some (.slice e)) (hi : P.info? e = some i) (hz : i.zero = some z0)
    (hsize : i.size = z) (hby : i.bytes = bytes) (hzs : z0.cells.size = z) (h : SliceN w B e z v n xs) (hB : B ≤ w.heap.size)
    (a : Addr) (m c : Nat) (news : List Value) (hm : 0 < m) (hl : news.length = m * z) (hnews : ∀ j u, news[j]? = some u → w.cell? (a.add j) = some u) (h1 : ∀ u ∈ news, u.oneCell' = true)
    (h63 : n + m ≤ maxLen) (hbytes : (n + m) * bytes ≤ 140737488355328) :
    ∃ v' w', (Builtin.append_ #[t, t] ty #[v, .slice (some a) m c]).run P w = .ok v' w' ∧ SliceN w' B e z v' (n + m) (xs ++ news) ∧ Chg (fun k => vblock v = some k) w w' ∧ (vblock v' = vblock v ∨ ∃ k, vblock v' = some k ∧ w.heap.size ≤ k) := by
  have fin : ∀ (g : Option Nat) (olds : List Value) v' w', g = vblock v → (∀ k, vblock v = some k → B ≤ k) → olds = xs → Appended w e z g olds news (n + m) v' w' → SliceN w' B e z v' (n + m) (xs ++ news) ∧ Chg (fun k => vblock v = some k) w w' ∧ (vblock v' = vblock v ∨ ∃ k, vblock v' = some k ∧ w.heap.size ≤ k) := by
    rintro g olds v' w' rfl hb rfl ⟨g', cap', cur', rfl, q1, q2, q3, q4, q5, q6, q7⟩
    refine ⟨⟨by rw [List.length_append, h.1, hl, Nat.add_mul], .inr ⟨g', cap', cur', rfl, ?_, q1, q2, q3, q4, q5⟩⟩, q7.mono fun k hk _ => hk.symm, q6.imp id fun h => ⟨g', rfl, h⟩⟩
    rcases q6 with q6 | q6
    · exact hb g' q6.symm
    · omega
  rcases h.2 with ⟨rfl, rfl⟩ | ⟨g, cap, cur, rfl, h2, h3, h4, h5, h6, h7⟩
  · obtain ⟨v', w', hr, hp⟩ := run_append_row_nil (P := P) w t ty e i z0 z bytes ht hi hz hsize hby hzs a m c news hm hl hnews (by omega) (by simpa using hbytes)
    have hx : [] = xs := (List.eq_nil_of_length_eq_zero (by rw [h.1]; simp)).symm
    refine ⟨v', w', hr, fin none [] v' w' rfl (fun k hk => by cases hk) hx ?_⟩
    rw [Nat.zero_add]; exact hp
  · obtain ⟨v', w', hr, hp⟩ := run_append_row (P := P) w t ty e i z0 z bytes ht hi hz hsize hby hzs g n cap cur h3 h4 h5 h6 a m c news hl hnews h1 h63 hbytes
    exact ⟨v', w', hr, fin (some g) _ v' w' rfl (fun k hk => by cases hk; exact h2) h7 hp⟩
/-- One element more, which the call has laid in a block of its own. -/
theorem run_append_oneN {P : Program} {t ty : TypeId} {i : TypeInfo} {z0 : Value} {bytes : Nat} (ht : P.underlying t = some (.slice e)) (hi : P.info? e = some i) (hz : i.zero = some z0)
    (hsize : i.size = z) (hby : i.bytes = bytes) (hzs : z0.cells.size = z) (h : SliceN w B e z v n xs) (hB : B ≤ w.heap.size) (us : List Value) (hu : us.length = z) (h1 : ∀ u ∈ us, u.oneCell' = true)
    (h63 : n + 1 ≤ maxLen) (hbytes : (n + 1) * bytes ≤ 140737488355328) :
    ∃ v' w', (Builtin.append_ #[t, t] ty #[v, .slice (some ⟨w.heap.size, 0, none⟩) 1 1]).run P (w.alloc (.cells us.toArray e)) = .ok v' w' ∧ SliceN w' B e z v' (n + 1) (xs ++ us) ∧ Chg (fun k => vblock v = some k) w w' ∧ (vblock v' = vblock v ∨ ∃ k, vblock v' = some k ∧ w.heap.size ≤ k) := by
  have hb : Below w.heap.size w (w.alloc (.cells us.toArray e)) := (Below.refl _ _).alloc (Nat.le_refl _) _
  obtain ⟨v', w', hr, h2, h3, h4⟩ := run_append_ownN (P := P) (ty := ty) ht hi hz hsize hby hzs (h.below hb) (by simp; omega) ⟨w.heap.size, 0, none⟩ 1 1 us (by omega) (by omega) (fun j x hx => by
    rw [Addr.add_lit, Nat.zero_add]
    refine cell_in (heap_new w _) ?_
    simpa using hx) h1 h63 hbytes
  exact ⟨v', w', hr, h2, (Chg.alloc (fun k => vblock v = some k) w _).trans h3 fun k hk _ => hk, h4.imp id fun ⟨k, e, hk⟩ => ⟨k, e, by simp at hk; omega⟩⟩
end
end Go.Proofs.Ytbjpfnafhhbmaaa
