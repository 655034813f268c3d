/- The row of the law StreamPlays, and its card: for every input of at most 1048576 values and letters the Go function returns true and its arguments read as before, out of the walk streamPlays_walk. The library's variables that the row lists hold what the program's text lays (the card's tie, given). -/
import Derived.Test.YtbjpfnafhhbmaaaDoorMD4
import Derived.Test.YtbjpfnafhhbmaaaDoorMD3
import Derived.Test.YtbjpfnafhhbmaaaDoorRows
import Derived.Stop.LaidErr
import Derived.Lib.LaidTab
import Derived.LaidLaws
import Derived.Test.YtbjpfnafhhbmaaaDoorMD1
import Derived.ChangeSame
import Derived.Test.YtbjpfnafhhbmaaaDoorCards
import Derived.Test.YtbjpfnafhhbmaaaDoorTie
import Derived.WalkKit
import Derived.ProofKit
import Derived.OpenShut
import Derived.ShutString
import Derived.ChangeOld
import Derived.Below
import Derived.SizedLaws
import Derived.Laws.Cover2
import Derived.Lib.SmallJoins
import Derived.Deep.Slices
import Derived.Deep.SlicePairs
import Derived.SliceStrings
import Derived.JoinedCond
import Derived.Deep.DeepHandedRow
/- Slices that begin anywhere in their row: append; the document's stream in memory. -/
namespace Go.Proofs.YtbjpfnafhhbmaaaDoor
set_option linter.unusedVariables false
set_option linter.unusedSimpArgs false
open Go.RowKit
/-- The slice value v holds n elements of z cells each, the cells xs. -/
def SliceO (w : World) (e : TypeId) (z : Nat) (v : Value) (n : Nat) (xs : List Value) : Prop :=
  xs.length = n * z ∧ ((v = .slice none 0 0 ∧ n = 0) ∨ ∃ g o cap cur, v = .slice (some ⟨g, o, none⟩) n cap ∧ RowAt w g e cur ∧ o + cap * z ≤ cur.size ∧ n ≤ cap ∧ cap ≤ maxLen ∧ (cur.toList.drop o).take (n * z) = xs)
theorem SliceO.nil (w : World) (e : TypeId) (z : Nat) : SliceO w e z (.slice none 0 0) 0 [] := ⟨by simp, .inl ⟨rfl, rfl⟩⟩
section
variable {w : World} {e : TypeId} {z : Nat} {v : Value} {n : Nat} {xs : List Value}
theorem SliceN.toO {B : Nat} (h : SliceN w B e z v n xs) : SliceO w e z v n xs := by
  refine ⟨h.1, h.2.imp id ?_⟩
  rintro ⟨g, cap, cur, h1, _, h3, h4, h5, h6, h7⟩
  exact ⟨g, 0, cap, cur, h1, h3, by omega, h5, h6, by simpa using h7⟩
theorem SliceO.chg (h : SliceO w e z v n xs) {S : Nat → Prop} {w' : World} (hc : Chg S w w') (hn : ∀ k, vblock v = some k → ¬ S k) : SliceO w' e z v n xs := by
  refine ⟨h.1, h.2.imp id ?_⟩
  rintro ⟨g, o, cap, cur, rfl, h3, h4⟩
  exact ⟨g, o, cap, cur, rfl, h3.keep hc (hn g rfl), h4⟩
theorem SliceO.block_lt (h : SliceO w e z v n xs) {k : Nat} (hk : vblock v = some k) : k < w.heap.size := by
  rcases h.2 with ⟨rfl, rfl⟩ | ⟨g, o, cap, cur, rfl, h3, h4⟩
  · cases hk
  · cases hk; exact h3.lt
theorem SliceO.form (h : SliceO w e z v n xs) : ∃ a cap, v = .slice a n cap ∧ n ≤ cap ∧ cap ≤ maxLen := by
  rcases h.2 with ⟨rfl, rfl⟩ | ⟨g, o, cap, cur, rfl, _, _, h5, h6, _⟩
  · exact ⟨none, 0, rfl, Nat.le_refl _, by unfold maxLen; omega⟩
  · exact ⟨_, cap, rfl, h5, h6⟩
/-- A cell of it. -/
theorem SliceO.cell (h : SliceO w e z v n xs) {i : Nat} (hi : i < n * z) : ∃ g o c, v = .slice (some ⟨g, o, none⟩) n c ∧ w.cell? ⟨g, o + i, none⟩ = some (xs.getD i undef) := by
  rcases h.2 with ⟨rfl, rfl⟩ | ⟨g, o, cap, cur, rfl, h3, h4, h5, h6, h7⟩
  · omega
  · refine ⟨g, o, cap, rfl, h3.cell ?_⟩
    have e := congrArg (fun l => l[i]?) h7
    simp only [List.getElem?_take_of_lt hi, List.getElem?_drop, Array.getElem?_toList] at e
    have hl : i < xs.length := by rw [h.1]; exact hi
    rw [e]; simp [List.getD, hl]
theorem run_append_oneO {P : Program} {t ty : TypeId} {i : TypeInfo} {z0 : Value} {bytes : Nat} (ht : P.underlying t = some (.slice e)) (hi : P.info? e = some i) (hz : i.zero = some z0)
    (hsize : i.size = z) (hby : i.bytes = bytes) (hzs : z0.cells.size = z) (h : SliceO w e z v n xs) (us : List Value) (hu : us.length = z) (h1 : ∀ u ∈ us, u.oneCell' = true)
    (h63 : n + 1 ≤ maxLen) (hbytes : (n + 1) * bytes ≤ 140737488355328) :
    ∃ v' w', (Builtin.append_ #[t, t] ty #[v, .slice (some ⟨w.heap.size, 0, none⟩) 1 1]).run P (w.alloc (.cells us.toArray e)) = .ok v' w' ∧ SliceO w' e z v' (n + 1) (xs ++ us) ∧ Chg (fun k => vblock v = some k) w w' ∧ (vblock v' = vblock v ∨ ∃ k, vblock v' = some k ∧ w.heap.size ≤ k) := by
  obtain ⟨W, hW⟩ : ∃ W, W = w.alloc (.cells us.toArray e) := ⟨_, rfl⟩
  have hbe : Below w.heap.size w W := by rw [hW]; exact (Below.refl _ _).alloc (Nat.le_refl _) _
  have hcW : ∀ S, Chg S w W := fun S => Chg.of_below S hbe
  have hnews : ∀ j u, us[j]? = some u → W.cell? ((⟨w.heap.size, 0, none⟩ : Addr).add j) = some u := fun j u hj => by
    rw [Addr.add_lit, Nat.zero_add, hW]
    refine cell_in (heap_new w _) ?_
    simpa using hj
  rw [← hW]
  have hw := h.chg (hcW (fun _ => False)) fun _ _ => id
  rcases h.2 with ⟨rfl, rfl⟩ | ⟨g, o, cap, cur, rfl, h3, h4, h5, h6, h7⟩
  · obtain ⟨v', w', hr, g', cap', cur', rfl, q1, q2, q3, q4, q5, q6, q7⟩ := run_append_row_nil (P := P) W t ty e i z0 z bytes ht hi hz hsize hby hzs ⟨w.heap.size, 0, none⟩ 1 1 us (by omega) (by omega) hnews (by omega) (by simpa using hbytes)
    have hx : xs = [] := List.eq_nil_of_length_eq_zero (by rw [h.1]; simp)
    refine ⟨_, w', hr, ⟨by rw [hx]; simp [hu], .inr ⟨g', 0, cap', cur', by simp, q1, by omega, by omega, q4, by rw [hx]; simpa using q5⟩⟩, (hcW _).trans (q7.mono fun k hk _ => by cases hk) fun _ h _ => h, .inr ⟨g', rfl, ?_⟩⟩
    rcases q6 with q6 | q6
    · cases q6
    · have := hbe.size; omega
  · have h3W : RowAt W g e cur := h3.keep (hcW (fun _ => False)) id
    subst hsize
    subst hby
    have hol : ((cur.toList.drop o).take (n * i.size)).length = n * i.size := by rw [h7, h.1]
    have hlen : (xs ++ us).length = (n + 1) * i.size := by rw [List.length_append, h.1, hu, Nat.add_mul, Nat.one_mul]
    by_cases hroom : n + 1 ≤ cap
    · have hle : (n + 1) * i.size ≤ cap * i.size := Nat.mul_le_mul_right _ hroom
      rw [Nat.add_mul, Nat.one_mul] at hle
      have hf := run_firstCells_some (P := P) W i.size 1 ⟨w.heap.size, 0, none⟩ 1 1 us (by omega) hnews
      have hst := run_storeCells_row (P := P) g (o + n * i.size) e us 0 cur W h3W (by omega) h1
      simp only [Nat.add_zero] at hst
      have hr : (Builtin.append_ #[t, t] ty #[.slice (some ⟨g, o, none⟩) n cap, .slice (some ⟨w.heap.size, 0, none⟩) 1 1]).run P W =
        .ok (.slice (some ⟨g, o, none⟩) (n + 1) cap) (W.setRow g (cur.toList.take (o + n * i.size) ++ us ++ cur.toList.drop (o + n * i.size + us.length)).toArray) := by
        simp [Builtin.append_, run_underlying ht, sizeOf, typeInfo, hi, Builtin.lenOf, hroom, hf, Addr.add_lit, hst]
      have hsz : (cur.toList.take (o + n * i.size) ++ us ++ cur.toList.drop (o + n * i.size + us.length)).toArray.size = cur.size := by
        simp only [List.size_toArray, List.length_append, List.length_take, List.length_drop, Array.length_toList]; omega
      refine ⟨_, _, hr, ⟨hlen, .inr ⟨g, o, cap, _, rfl, h3W.setRow hsz, by rw [hsz]; exact h4, hroom, h6, ?_⟩⟩, (hcW _).trans (Chg.setRow (fun k => vblock (.slice (some ⟨g, o, none⟩) n cap) = some k) _ _ _ rfl) fun _ h _ => h, .inl rfl⟩
      rw [List.toList_toArray]
      have hd : (cur.toList.take (o + n * i.size) ++ us ++ cur.toList.drop (o + n * i.size + us.length)).drop o = (xs ++ us) ++ cur.toList.drop (o + n * i.size + us.length) := by
        rw [List.append_assoc, List.drop_append_of_le_length (by rw [List.length_take, Array.length_toList]; omega), List.drop_take, show o + n * i.size - o = n * i.size by omega, h7, List.append_assoc]
      rw [hd, ← hlen]
      exact List.take_left
    · have holds : ∀ j u, xs[j]? = some u → W.cell? ((⟨g, o, none⟩ : Addr).add j) = some u := fun j u hj => by
        rw [Addr.add_lit]
        obtain ⟨hj1, hj2⟩ := List.getElem?_eq_some_iff.1 hj
        obtain ⟨g', o', c', he, hc⟩ := hw.cell (i := j) (by rw [← h.1]; exact hj1)
        cases he
        rw [hc]; simp [List.getD, hj1, hj2]
      have hr := run_append_grow (P := P) W t ty e i z0 ht hi hz ⟨g, o, none⟩ n cap _ h.1 holds ⟨w.heap.size, 0, none⟩ 1 1 us (by omega) hnews (by omega) (by simp only [maxLen] at h63; omega) (growslice_fits (by omega) hbytes)
      obtain ⟨g', cap', cur', he, q1, q2, q3, q4, q5, q6, q7⟩ := append_grown W (some g) e i.size z0 hzs xs us (n + 1) cap hlen h63
      refine ⟨_, _, hr, ⟨hlen, .inr ⟨g', 0, cap', cur', he, q1, by omega, q3, q4, by simpa using q5⟩⟩, (hcW _).trans (q7.mono fun k hk _ => hk.symm) fun _ h _ => h, ?_⟩
      rcases q6 with q6 | q6
      · left; rw [he]; exact q6
      · right; exact ⟨g', by rw [he]; rfl, by have := hbe.size; omega⟩
end
end Go.Proofs.YtbjpfnafhhbmaaaDoor

/- The document's stream in memory: New, Below, Len, Last, SetLast. -/
namespace Go.Proofs.YtbjpfnafhhbmaaaDoor.Sad
open Go.Proofs.YtbjpfnafhhbmaaaDoor
set_option linter.unusedVariables false
set_option linter.unusedSimpArgs false
open Go.RowKit RT Go.Shelf
/-- The document's stream at block s: the slice of its entries, the block of that slice and those of the pairs' rows apart. -/
structure RefO (w : World) (s : Nat) (v : Value) (R : Nat → Prop) (Vs : List Told) (E : List Ent) (l : Nat × Nat) : Prop where
  head : w.heap[s]? = some (.cells #[v, .int .u64 l.1, .int .u64 l.2] 78 (0, 0))
  row : SliceO w 39 3 v Vs.length (Vs.flatMap entV)
  rows : Rows2 w R Vs E
  ns : ¬ R s
  nv : vblock v ≠ some s
  nr : ∀ k, vblock v = some k → ¬ R k
  rlt : ∀ k, R k → k < w.heap.size
  l64 : l.1 < 18446744073709551616 ∧ l.2 < 18446744073709551616
def RefS (s : Nat) (E : List Ent) (l : Nat × Nat) (w : World) (F : Nat → Prop) : Prop :=
  ∃ v R Vs, RefO w s v R Vs E l ∧ ∀ k, F k ↔ k = s ∨ vblock v = some k ∨ R k
section
variable {w w' : World} {s : Nat} {v : Value} {R F S : Nat → Prop} {Vs : List Told} {E : List Ent} {l : Nat × Nat}
theorem RefO.chg (h : RefO w s v R Vs E l) (hc : Chg S w w') (h1 : ¬ S s) (h2 : ∀ k, vblock v = some k → ¬ S k) (h3 : ∀ k, R k → ¬ S k) : RefO w' s v R Vs E l :=
  ⟨hc.keep h.head h1, h.row.chg hc h2, Rows2.chg hc h3 h.rows, h.ns, h.nv, h.nr, fun k hk => Nat.lt_of_lt_of_le (h.rlt k hk) hc.size, h.l64⟩
theorem RefO.below (h : RefO w s v R Vs E l) (hb : Below w.heap.size w w') : RefO w' s v R Vs E l := h.chg (Chg.of_below (fun _ => False) hb) id (fun _ _ => id) fun _ _ => id
theorem RefO.len (h : RefO w s v R Vs E l) : Vs.length = E.length := h.rows.length
theorem RefO.form (h : RefO w s v R Vs E l) : ∃ a c, v = .slice a E.length c ∧ E.length ≤ c ∧ c ≤ maxLen := by
  obtain ⟨a, c, hv, h1, h2⟩ := h.row.form
  rw [h.len] at hv h1
  exact ⟨a, c, hv, h1, h2⟩
theorem RefS.lt (h : RefS s E l w F) : ∀ k, F k → k < w.heap.size := by
  obtain ⟨v, R, Vs, h, hF⟩ := h
  intro k hk
  rcases (hF k).1 hk with rfl | hk | hk
  · exact heap_lt h.head
  · exact h.row.block_lt hk
  · exact h.rlt k hk
theorem RefS.chg (h : RefS s E l w F) (hc : Chg S w w') (hs : ∀ k, F k → ¬ S k) : RefS s E l w' F := by
  obtain ⟨v, R, Vs, h, hF⟩ := h
  exact ⟨v, R, Vs, h.chg hc (hs s ((hF s).2 (.inl rfl))) (fun k hk => hs k ((hF k).2 (.inr (.inl hk)))) fun k hk => hs k ((hF k).2 (.inr (.inr hk))), hF⟩
theorem RefS.below (h : RefS s E l w F) (hb : Below w.heap.size w w') : RefS s E l w' F := h.chg (Chg.of_below (fun _ => False) hb) fun _ _ => id
theorem RefO.setTop (h : RefO w s v R Vs E l) {l' : Nat × Nat} (hc : Chg (fun k => k = s) w w') (hh : w'.heap[s]? = some (.cells #[v, .int .u64 l'.1, .int .u64 l'.2] 78 (0, 0))) (h64 : l'.1 < 18446744073709551616 ∧ l'.2 < 18446744073709551616) : RefO w' s v R Vs E l' :=
  ⟨hh, h.row.chg hc fun k hk e => h.nv (by have e' : k = s := e; rw [hk, e']), Rows2.chg hc (fun k hk e => h.ns (by have e' : k = s := e; rw [← e']; exact hk)) h.rows, h.ns, h.nv, h.nr, fun k hk => Nat.lt_of_lt_of_le (h.rlt k hk) hc.size, h64⟩
end
set_option maxHeartbeats 800000 in
set_option maxRecDepth 100000 in
theorem refBelow (a b c d : Nat) (w : World) : Calls Tryd.prog 66 #[.agg #[.int .u64 a, .int .u64 b], .agg #[.int .u64 c, .int .u64 d]] w fun e w' => e = .returned (.bool (lessN (a, b) (c, d))) ∧ Below w.heap.size w w' := by
  have HL := Lib.hid (show lessN (a, b) (c, d) = (decide (a < c) || (decide (a = c) && decide (b < d))) by simp [lessN])
  rcases Nat.lt_or_ge a c with h1 | h1
  · have e1 := decide_eq_true h1
    have hr : lessN (a, b) (c, d) = true := by rw [HL.out, e1]; rfl
    rw [hr]
    clear h1 hr HL
    go_enter Tryd.func66, Tryd.ntmps66
    go_wp2_with fail
    go_ret
    exact ⟨rfl, ((Below.refl _ _).alloc (Nat.le_refl _) _).alloc (by simp) _⟩
  · have e1 : decide (a < c) = false := by simp; omega
    rcases Decidable.em (a = c) with h2 | h2
    · subst h2
      obtain ⟨v, hv⟩ : ∃ v, decide (b < d) = v := ⟨_, rfl⟩
      have hr : lessN (a, b) (a, d) = v := by rw [HL.out, hv]; simp
      rw [hr]
      clear h1 hr HL
      go_enter Tryd.func66, Tryd.ntmps66
      go_wp2_with fail
      go_ret
      exact ⟨rfl, ((Below.refl _ _).alloc (Nat.le_refl _) _).alloc (by simp) _⟩
    · have e2 : ((a : Int) == (c : Int)) = false := by simp; omega
      have hr : lessN (a, b) (c, d) = false := by rw [HL.out, e1]; simp [h2]
      rw [hr]
      clear h1 hr HL h2
      go_enter Tryd.func66, Tryd.ntmps66
      go_wp2_with fail
      go_ret
      exact ⟨rfl, ((Below.refl _ _).alloc (Nat.le_refl _) _).alloc (by simp) _⟩
set_option maxHeartbeats 800000 in
set_option maxRecDepth 100000 in
theorem refS_new (w : World) : Calls Tryd.prog 19 #[] w fun e w' => ∃ s F, e = .returned (ptrV s) ∧ RefS s [] (0, 0) w' F ∧ Below w.heap.size w w' ∧ ∀ k, F k → w.heap.size ≤ k := by
  obtain ⟨w1, hw1⟩ : ∃ w1, w1 = w.alloc (.cells #[.slice none 0 0, .int .u64 0, .int .u64 0] 78) := ⟨_, rfl⟩
  have HE := Lib.hid (show RefS w.heap.size [] (0, 0) w1 (fun k => k = w.heap.size) ∧ Below w.heap.size w w1 from by
    refine ⟨⟨.slice none 0 0, fun _ => False, [], ⟨by rw [hw1]; exact heap_new _ _, SliceO.nil _ _ _, trivial, id, (fun h => by cases h), (fun k h => by cases h), fun k h => h.elim, by decide⟩, fun k => by simp [vblock]⟩, by rw [hw1]; exact (Below.refl _ _).alloc (Nat.le_refl _) _⟩)
  have HW := Lib.hid hw1
  clear hw1
  go_enter Tryd.func19, Tryd.ntmps19
  go_wp2_with fail
  rw [← HW.out]
  go_ret
  exact ⟨_, _, rfl, HE.out.1, HE.out.2, fun k hk => Nat.le_of_eq hk.symm⟩
set_option maxHeartbeats 800000 in
set_option maxRecDepth 100000 in
theorem refS_len {w : World} {s : Nat} {F : Nat → Prop} {E : List Ent} {l : Nat × Nat} (h : RefS s E l w F) : Calls Tryd.prog 49 #[ptrV s] w fun e w' => e = .returned (.int .i64 E.length) ∧ w' = w := by
  obtain ⟨v, R, Vs, h, _⟩ := h
  obtain ⟨a, c, rfl, _⟩ := h.form
  have c0 := cell_in h.head (i := 0) rfl
  clear h
  unfold ptrV
  go_enter Tryd.func49, Tryd.ntmps49
  go_wp2_with fail
  go_ret
  exact ⟨rfl, rfl⟩
set_option maxHeartbeats 1600000 in
set_option maxRecDepth 100000 in
theorem refS_last {w : World} {s : Nat} {F : Nat → Prop} {E : List Ent} {l : Nat × Nat} (h : RefS s E l w F) : Calls Tryd.prog 50 #[ptrV s] w fun e w' => e = .returned (.agg #[.int .u64 l.1, .int .u64 l.2]) ∧ Below w.heap.size w w' := by
  obtain ⟨v, R, Vs, h, _⟩ := h
  obtain ⟨w1, hw1⟩ : ∃ w1, w1 = w.alloc (.cells #[.int .u64 0, .int .u64 0] 24) := ⟨_, rfl⟩
  have hb1 : Below w.heap.size w w1 := by rw [hw1]; exact (Below.refl _ _).alloc (Nat.le_refl _) _
  have hh1 : w1.heap[w.heap.size]? = some (.cells #[.int .u64 0, .int .u64 0] 24 (0, 0)) := by rw [hw1]; exact heap_new _ _
  have c1 := cell_in (h.below hb1).head (i := 1) rfl
  have c2 := cell_in (h.below hb1).head (i := 2) rfl
  have g0 := cell_in hh1 (i := 0) rfl
  have g1 := frozen_in hh1 0
  have k1 := cell_in (setCell_head hh1 0 (.int .u64 l.1)) (i := 1) rfl
  have k2 := frozen_in (setCell_head hh1 0 (.int .u64 l.1)) 1
  have HE := Lib.hid (show (((w1.setCell ⟨w.heap.size, 0, none⟩ (.int .u64 l.1)).setCell ⟨w.heap.size, 1, none⟩ (.int .u64 l.2)).cell? ⟨w.heap.size, 0, none⟩ = some (.int .u64 l.1) ∧ ((w1.setCell ⟨w.heap.size, 0, none⟩ (.int .u64 l.1)).setCell ⟨w.heap.size, 1, none⟩ (.int .u64 l.2)).cell? ⟨w.heap.size, 1, none⟩ = some (.int .u64 l.2)) ∧ Below w.heap.size w ((w1.setCell ⟨w.heap.size, 0, none⟩ (.int .u64 l.1)).setCell ⟨w.heap.size, 1, none⟩ (.int .u64 l.2)) by
    have e3 := setCell_head (setCell_head hh1 0 (.int .u64 l.1)) 1 (.int .u64 l.2)
    exact ⟨⟨cell_in e3 rfl, cell_in e3 rfl⟩, (hb1.setCell (Nat.le_refl _) _).setCell (Nat.le_refl _) _⟩)
  have HW := Lib.hid hw1
  clear h hw1 hb1 hh1
  unfold ptrV
  go_enter Tryd.func50, Tryd.ntmps50
  go_upto_region 1 with (fail)
  rw [← HW.out]
  go_wp2_with fail
  exact bodyPost_ret (v := .agg #[.int .u64 l.1, .int .u64 l.2]) (by have h := HE.out.1; simp [results, Tryd.results50, go_sem, h.1, h.2]) rfl ⟨rfl, HE.out.2⟩
end Go.Proofs.YtbjpfnafhhbmaaaDoor.Sad

/- The document's stream: SetLast, Trim. -/
namespace Go.Proofs.YtbjpfnafhhbmaaaDoor.Sad
open Go.Proofs.YtbjpfnafhhbmaaaDoor
set_option linter.unusedVariables false
set_option linter.unusedSimpArgs false
open Go.RowKit RT Go.Shelf
set_option maxHeartbeats 1600000 in
set_option maxRecDepth 100000 in
theorem refS_setLast {w : World} {s : Nat} {F : Nat → Prop} {E : List Ent} {l : Nat × Nat} (h : RefS s E l w F) {a b : Nat} (ha : a < 18446744073709551616) (hb : b < 18446744073709551616) :
    Calls Tryd.prog 46 #[ptrV s, .agg #[.int .u64 a, .int .u64 b]] w fun e w' =>
      e = .returned (.int .i64 (if lessN (a, b) l then 1 else 0)) ∧ RefS s E (if lessN (a, b) l then l else (a, b)) w' F ∧ Chg F w w' := by
  have h0 := h
  obtain ⟨v, R, Vs, h, hF⟩ := h
  obtain ⟨w1, hw1⟩ : ∃ w1, w1 = w.alloc (.cells #[.int .u64 a, .int .u64 b] 24) := ⟨_, rfl⟩
  have hb1 : Below w.heap.size w w1 := by rw [hw1]; exact (Below.refl _ _).alloc (Nat.le_refl _) _
  have hh1 : w1.heap[w.heap.size]? = some (.cells #[.int .u64 a, .int .u64 b] 24 (0, 0)) := by rw [hw1]; exact heap_new _ _
  have HB := Lib.hid (show ∀ w', Below w1.heap.size w1 w' → w'.heap[w.heap.size]? = some (.cells #[.int .u64 a, .int .u64 b] 24 (0, 0)) ∧ RefO w' s v R Vs E l from fun w' hb => ⟨(hb.block _ (heap_lt hh1)).trans hh1, (h.below hb1).below hb⟩)
  have hd : Below w1.heap.size w1 w1.drew := belowN (Below.refl _ _) 1
  obtain ⟨X1, fw, hX1, hfw, hFc⟩ := classOf (fun w' => (w'.cell? ⟨w.heap.size, 0, none⟩ = some (.int .u64 a) ∧ w'.cell? ⟨w.heap.size, 1, none⟩ = some (.int .u64 b)) ∧ w'.cell? ⟨s, 1, none⟩ = some (.int .u64 l.1) ∧ w'.cell? ⟨s, 1 + 1, none⟩ = some (.int .u64 l.2)) (w := w1.drew) (by
    have := HB.out _ hd
    exact ⟨⟨cell_in this.1 rfl, cell_in this.1 rfl⟩, cell_in this.2.head rfl, cell_in this.2.head rfl⟩)
  have f1 := fun x => (hfw x).1.1
  have f2 := fun x => (hfw x).1.2
  have f3 := fun x => (hfw x).2.1
  have f4 := fun x => (hfw x).2.2
  have hd0 := hFc w1.drew (by
    have := HB.out _ hd
    exact ⟨⟨cell_in this.1 rfl, cell_in this.1 rfl⟩, cell_in this.2.head rfl, cell_in this.2.head rfl⟩)
  have HW := Lib.hid hw1
  have H := Lib.hid (And.intro h0 (And.intro hF (And.intro hb1 (And.intro hd (And.intro ha hb)))))
  have HBl := Lib.hid (fun w' => refBelow a b l.1 l.2 w')
  clear h0 h hF hw1 hb1 hh1 hfw hFc hd ha hb
  unfold ptrV
  go_enter Tryd.func46, Tryd.ntmps46
  go_upto_region 3 with (fail)
  rw [← HW.out]
  refine wp_region_text ⟨[5], [], 5⟩ (fun w' => ∃ x : X1, w' = fw x) (by kernel_rfl) (by kernel_rfl) hd0 ?_
  refine wpC_seg false (hd0) 5 0 _ _ (by rfl) (by rfl) ?_
  simp only [List.take_succ_cons, List.take_zero, List.drop_succ_cons, List.drop_zero, Bool.false_eq_true, if_false, Nat.zero_add, Nat.reduceAdd]
  repeat (go_big_quiet_step (fail))
  refine wpQuiet_nil ?_
  refine wpC_loud (by rfl) (by rfl) fun K hK => ?_
  go_wp2_with fail
  refine (HBl.out _).mono ?_
  rintro e w2 ⟨rfl, b2⟩
  refine hK _ _ (fun h => absurd h (by decide)) ?_
  clear hK
  refine wpC_nil ?_
  clear f1 f2 f3 f4 hX1 hd0 fw X1
  have HB2 := Lib.hid (H.out.2.2.2.1.trans (b2.mono H.out.2.2.2.1.size))
  clear b2
  by_cases hless : lessN (a, b) l = true
  · rw [show lessN (a, b) (l.1, l.2) = true from hless]
    have HL := Lib.hid hless
    clear hless
    go_wp2_with fail
    go_ret
    have hbb := H.out.2.2.1.trans (HB2.out.mono H.out.2.2.1.size)
    exact ⟨rfl, H.out.1.below hbb, Chg.of_below _ hbb⟩
  · have hless' : lessN (a, b) l = false := by simpa using hless
    rw [show lessN (a, b) (l.1, l.2) = false from hless']
    have HL := Lib.hid hless
    obtain ⟨hn2, hr2⟩ := HB.out _ HB2.out
    have p0 := cell_in hn2 (i := 0) rfl
    have p1 := cell_in hn2 (i := 1) rfl
    have c1 := cell_in hr2.head (i := 1) rfl
    have d1 := frozen_in hr2.head 1
    have c2 := cell_in (setCell_head hr2.head 1 (.int .u64 a)) (i := 2) rfl
    have d2 := frozen_in (setCell_head hr2.head 1 (.int .u64 a)) 2
    obtain ⟨w3, hw3⟩ : ∃ w3, w3 = (w2.setCell ⟨s, 1, none⟩ (.int .u64 a)).setCell ⟨s, 2, none⟩ (.int .u64 b) := ⟨_, rfl⟩
    have HE := Lib.hid (show RefS s E (a, b) w3 F ∧ Chg F w w3 from by
      have hc : Chg (fun k => k = s) w2 w3 := by rw [hw3]; exact (Chg.setCell (fun k => k = s) _ _ _ rfl).trans (Chg.setCell (fun k => k = s) _ _ _ rfl) fun _ h _ => h
      refine ⟨⟨v, R, Vs, hr2.setTop hc (by rw [hw3]; exact setCell_head (setCell_head hr2.head 1 _) 2 _) H.out.2.2.2.2, H.out.2.1⟩, ?_⟩
      refine ((Chg.of_below F (H.out.2.2.1.trans (HB2.out.mono H.out.2.2.1.size))).trans hc fun k hk _ => ?_)
      exact (H.out.2.1 k).2 (.inl hk))
    have HW3 := Lib.hid hw3
    clear hn2 hr2 hw3 hless hless'
    go_wp2_with fail
    rw [← HW3.out]
    go_ret
    try rw [if_neg HL.out, if_neg HL.out]
    exact ⟨rfl, HE.out⟩
theorem drop_rows {w : World} {Q : Nat → Prop} : ∀ {xs : List Told} {es : List Ent} (k : Nat), Rows2 w Q xs es → Rows2 w Q (xs.drop k) (es.drop k)
  | [], [], _, _ => by rw [List.drop_nil, List.drop_nil]; trivial
  | x :: xs, e :: es, 0, h => h
  | x :: xs, e :: es, k + 1, h => drop_rows k h.2
  | [], _ :: _, _, h => h.elim
  | _ :: _, [], _, h => h.elim
theorem drop_ents : ∀ (Vs : List Told) (k : Nat), (Vs.drop k).flatMap entV = (Vs.flatMap entV).drop (k * 3)
  | [], k => by simp
  | x :: Vs, 0 => by simp
  | x :: Vs, k + 1 => by
    rw [List.drop_succ_cons, drop_ents Vs k, List.flatMap_cons, show (k + 1) * 3 = (entV x).length + k * 3 by simp [entV]; omega, List.drop_append]
    simp
/-- A slice without its first elements. -/
theorem SliceO.drop {w : World} {e : TypeId} {g o cap n : Nat} {xs : List Value} (h : SliceO w e 3 (.slice (some ⟨g, o, none⟩) n cap) n xs) {k : Nat} (hk : k ≤ n) :
    SliceO w e 3 (.slice (some ⟨g, if cap = k then o else o + k * 3, none⟩) (n - k) (cap - k)) (n - k) (xs.drop (k * 3)) := by
  refine ⟨by rw [List.length_drop, h.1, Nat.sub_mul], ?_⟩
  obtain ⟨g', o', cap', cur, he, h3, h4, h5, h6, h7⟩ := h.2.resolve_left (by rintro ⟨h, _⟩; cases h)
  cases he
  refine .inr ⟨g, _, _, cur, rfl, h3, ?_, by omega, by omega, ?_⟩
  · split
    · omega
    · rw [Nat.sub_mul]
      have : k * 3 ≤ cap * 3 := Nat.mul_le_mul_right _ (by omega)
      omega
  · split
    · next he =>
      have hn : n = k := by omega
      rw [hn, Nat.sub_self, Nat.zero_mul, List.take_zero]
      rw [List.drop_eq_nil_of_le]
      rw [h.1, hn]; exact Nat.le_refl _
    · rw [← h7, List.drop_take, List.drop_drop, Nat.sub_mul]
set_option maxHeartbeats 1600000 in
set_option maxRecDepth 100000 in
theorem refS_trim {w : World} {s : Nat} {F : Nat → Prop} {E : List Ent} {l : Nat × Nat} (h : RefS s E l w F) (hn : E.length ≤ 400000) {most : Int} (hm1 : -9223372036854775808 ≤ most) (hm2 : most ≤ 9223372036854775807) :
    Calls Tryd.prog 48 #[ptrV s, .int .i64 most] w fun e w' => e = .returned (.int .i64 (trimN E.length most : Nat)) ∧ ∃ F', RefS s (E.drop (trimN E.length most)) l w' F' ∧ Fresh w F F' ∧ Chg F w w' := by
  have HLen := Lib.hid (refS_len h)
  have H0 := Lib.hid h
  obtain ⟨N, hN⟩ : ∃ N, E.length = N := ⟨_, rfl⟩
  rw [hN] at HLen ⊢
  have hstay : trimN N most = 0 → RefS s (E.drop (trimN N most)) l w F := fun ht => by rw [ht, List.drop_zero]; exact h
  have HStay := Lib.hid hstay
  unfold ptrV at *
  rcases (show most < 0 ∨ 0 ≤ most by omega) with hneg | hpos
  · have ht : trimN N most = 0 := by unfold trimN; rw [if_pos hneg]
    have e1 : decide (most < 0) = true := decide_eq_true hneg
    have HT := Lib.hid ht
    rw [ht]
    clear h hN ht HLen hneg hstay
    go_enter Tryd.func48, Tryd.ntmps48
    go_wp2_with fail
    go_ret
    have := HStay.out HT.out
    rw [HT.out] at this
    exact ⟨rfl, F, this, fun k hk => .inl hk, Chg.refl _ _⟩
  · obtain ⟨mo, rfl⟩ : ∃ mo : Nat, most = mo := ⟨most.toNat, by omega⟩
    have ht : trimN N mo = N - mo := by unfold trimN; rw [if_neg (by omega)]; simp
    have e1 : decide ((mo : Int) < 0) = false := decide_eq_false (by omega)
    rcases Nat.lt_or_ge mo N with hmN | hmN
    · obtain ⟨m, hm⟩ : ∃ m, N - mo = m := ⟨_, rfl⟩
      have e2 : decide ((N : Int) ≤ (mo : Int)) = false := decide_eq_false (by omega)
      have e2' : decide (N ≤ mo) = false := decide_eq_false (by omega)
      have e3 : (N : Int) - (mo : Int) = (m : Int) := by omega
      have e4 : IntKind.i64.wrap ((N : Int) - (mo : Int)) = (m : Int) := by rw [e3]; exact IntWalk.i64_in _ (by omega)
      rw [ht, hm]
      obtain ⟨v, R, Vs, hO, hF⟩ := h
      have hlen := hO.len
      rw [hN] at hlen
      obtain ⟨g, o, cap, hv, _⟩ := hO.row.cell (i := 0) (by rw [hlen]; omega)
      subst hv
      rw [hlen] at hO
      have hcap : N ≤ cap := by
        obtain ⟨a, c, e, h1, h2⟩ := hO.row.form
        cases e; rw [hlen] at h1; exact h1
      have hrow := hO.row
      rw [hlen] at hrow
      have hdr := SliceO.drop (k := m) hrow (by omega)
      rw [← drop_ents] at hdr
      have c0 := cell_in hO.head (i := 0) rfl
      have d0 := frozen_in hO.head 0
      obtain ⟨w2, hw2⟩ : ∃ w2, w2 = w.setCell ⟨s, 0, none⟩ (.slice (some ⟨g, if cap = m then o else o + m * 3, none⟩) (N - m) (cap - m)) := ⟨_, rfl⟩
      have hc : Chg (fun k => k = s) w w2 := by rw [hw2]; exact Chg.setCell (fun k => k = s) _ _ _ rfl
      have hh2 : w2.heap[s]? = some (.cells #[.slice (some ⟨g, if cap = m then o else o + m * 3, none⟩) (N - m) (cap - m), .int .u64 l.1, .int .u64 l.2] 78 (0, 0)) := by rw [hw2]; exact setCell_head hO.head 0 _
      have HE := Lib.hid (show ∃ F', RefS s (E.drop m) l w2 F' ∧ Fresh w F F' ∧ Chg F w w2 from by
        have hl2 : (Vs.drop m).length = N - m := by rw [List.length_drop, hlen]
        refine ⟨F, ⟨_, R, Vs.drop m, ⟨hh2, ?_, Rows2.chg hc (fun k hk e => hO.ns (by have e' : k = s := e; rw [← e']; exact hk)) (drop_rows m hO.rows), hO.ns, ?_, ?_, fun k hk => Nat.lt_of_lt_of_le (hO.rlt k hk) hc.size, hO.l64⟩, ?_⟩, fun k hk => .inl hk, hc.mono fun k hk _ => (hF k).2 (.inl hk)⟩
        · rw [hl2]
          exact hdr.chg hc fun k hk e => hO.nv (by have e' : k = s := e; rw [← e']; exact hk)
        · exact hO.nv
        · exact hO.nr
        · exact hF)
      have HW2 := Lib.hid hw2
      have HK := Lib.hid (show m ≤ N ∧ N ≤ cap from ⟨by omega, hcap⟩)
      have k1 : m ≤ N := by omega
      have k2 : N ≤ cap := hcap
      have HHd := Lib.hid hO.head
      clear hO hF hlen hrow hdr hc hh2 hw2 hcap hN ht hpos hm hmN e3 hstay hn hm1 hm2
      rcases Decidable.em (cap = m) with hcm | hcm
      · subst hcm
        rw [if_pos rfl] at HW2
        have k3 : N - cap = 0 := by omega
        rw [k3, Nat.sub_self] at HW2
        obtain rfl : cap = N := by omega
        clear k1 k2 k3
        go_enter Tryd.func48, Tryd.ntmps48
        go_wp2_with fail
        refine HLen.out.mono ?_
        rintro e w' ⟨rfl, rfl⟩
        go_wp2_with fail
        rw [← HW2.out]
        go_ret
        exact ⟨rfl, HE.out⟩
      · rw [if_neg hcm] at HW2
        go_enter Tryd.func48, Tryd.ntmps48
        go_wp2_with fail
        refine HLen.out.mono ?_
        rintro e w' ⟨rfl, rfl⟩
        go_wp2_with fail
        rw [← HW2.out]
        go_ret
        exact ⟨rfl, HE.out⟩
    · have hz : trimN N mo = 0 := by rw [ht]; omega
      have e2 : decide ((N : Int) ≤ (mo : Int)) = true := decide_eq_true (by omega)
      have e2' : decide (N ≤ mo) = true := decide_eq_true hmN
      have HT := Lib.hid hz
      rw [hz]
      clear h hN ht hpos hz hstay
      go_enter Tryd.func48, Tryd.ntmps48
      go_wp2_with fail
      refine HLen.out.mono ?_
      rintro e w' ⟨rfl, rfl⟩
      go_wp2_with fail
      go_ret
      have := HStay.out HT.out
      rw [HT.out] at this
      exact ⟨rfl, F, this, fun k hk => .inl hk, Chg.refl _ _⟩
end Go.Proofs.YtbjpfnafhhbmaaaDoor.Sad

/- The document's Next. -/
namespace Go.Proofs.YtbjpfnafhhbmaaaDoor.Sad
open Go.Proofs.YtbjpfnafhhbmaaaDoor
set_option linter.unusedVariables false
set_option linter.unusedSimpArgs false
open Go.RowKit RT Go.Shelf
set_option maxHeartbeats 6400000 in
set_option maxRecDepth 100000 in
theorem refO_next {w : World} {s ms q : Nat} {v : Value} {R : Nat → Prop} {Vs : List Told} {E : List Ent} (h : RefO w s v R Vs E (ms, q)) {now : Int} (hlo : -9223372036854775808 ≤ now) (hhi : now ≤ 9223372036854775807) :
    Calls Tryd.prog 44 #[ptrV s, .int .i64 now] w fun e w' => e = .returned (.tuple #[.agg #[.int .u64 (nextN ms q now).1.1, .int .u64 (nextN ms q now).1.2], .bool (nextN ms q now).2]) ∧ Below w.heap.size w w' := by
  obtain ⟨w1, hw1⟩ : ∃ w1, w1 = w.alloc (.cells #[.int .u64 0, .int .u64 0] 24) := ⟨_, rfl⟩
  have hb1 : Below w.heap.size w w1 := by rw [hw1]; exact (Below.refl _ _).alloc (Nat.le_refl _) _
  have hh1 : w1.heap[w.heap.size]? = some (.cells #[.int .u64 0, .int .u64 0] 24 (0, 0)) := by rw [hw1]; exact heap_new _ _
  obtain ⟨u, hu⟩ : ∃ u, now.toNat = u := ⟨_, rfl⟩
  have hwr : 0 < now → IntKind.u64.wrap now = (u : Int) := fun _ => by rw [IntKind.wrap_u64]; omega
  have hwr2 : IntKind.u64.wrap (u : Int) = (u : Int) := by rw [IntKind.wrap_u64]; omega
  have hz1 : w1.heap.size = w.heap.size + 1 := by rw [hw1]; simp
  obtain ⟨wb, hwb⟩ : ∃ wb, wb = w1.alloc (.cells #[.int .u64 0, .int .u64 0] 24) := ⟨_, rfl⟩
  have hbb : Below w.heap.size w wb := by rw [hwb]; exact hb1.alloc hb1.size _
  have hhb : wb.heap[w1.heap.size]? = some (.cells #[.int .u64 0, .int .u64 0] 24 (0, 0)) := by rw [hwb]; exact heap_new _ _
  have hhb0 : wb.heap[w.heap.size]? = some (.cells #[.int .u64 0, .int .u64 0] 24 (0, 0)) := by rw [hwb]; exact heap_old hh1 _
  obtain ⟨w2, hw2p, hw2n, hb2, hh2, hh0⟩ : ∃ w2, (0 < now → w2 = wb.setCell ⟨w1.heap.size, 0, none⟩ (.int .u64 u)) ∧ (¬ 0 < now → w2 = wb) ∧ Below w.heap.size w w2 ∧ w2.heap[w1.heap.size]? = some (.cells #[.int .u64 u, .int .u64 0] 24 (0, 0)) ∧ w2.heap[w.heap.size]? = some (.cells #[.int .u64 0, .int .u64 0] 24 (0, 0)) := by
    by_cases hp : 0 < now
    · refine ⟨wb.setCell ⟨w1.heap.size, 0, none⟩ (.int .u64 u), fun _ => rfl, fun hn => absurd hp hn, hbb.setCell hb1.size _, setCell_head hhb 0 _, ?_⟩
      have hc : Chg (fun k => k = w1.heap.size) wb (wb.setCell ⟨w1.heap.size, 0, none⟩ (.int .u64 u)) := Chg.setCell _ _ _ _ rfl
      exact hc.keep hhb0 (by omega)
    · have hu0 : u = 0 := by omega
      refine ⟨wb, fun h => absurd h hp, fun _ => rfl, hbb, ?_, hhb0⟩
      rw [hu0]; exact hhb
  have cb0 := cell_in hhb (i := 0) rfl
  have fb0 := frozen_in hhb 0
  have hlt0 := heap_lt hh0
  have hlt2 := heap_lt hh2
  have h2 := h.below hb2
  have HC := Lib.hid (show ∀ w', Below w2.heap.size w2 w' → (w'.cell? ⟨s, 1, none⟩ = some (.int .u64 ms) ∧ w'.cell? ⟨s, 2, none⟩ = some (.int .u64 q)) ∧ w'.cell? ⟨w1.heap.size, 0, none⟩ = some (.int .u64 u) ∧ w'.cell? ⟨w1.heap.size, 1, none⟩ = some (.int .u64 (0 : Nat)) from fun w' hb => by
    have e1 := (hb.block _ (heap_lt h2.head)).trans h2.head
    have e2 := (hb.block _ hlt2).trans hh2
    exact ⟨⟨cell_in e1 rfl, cell_in e1 rfl⟩, cell_in e2 rfl, cell_in e2 rfl⟩)
  have HBl := Lib.hid (fun w' => refBelow ms q u 0 w')
  have HEnd : Hid (∀ w' x y, Below w2.heap.size w2 w' → (((w'.setCell ⟨w.heap.size, 0, none⟩ x).setCell ⟨w.heap.size, 1, none⟩ y).cell? ⟨w.heap.size, 0, none⟩ = some x ∧ ((w'.setCell ⟨w.heap.size, 0, none⟩ x).setCell ⟨w.heap.size, 1, none⟩ y).cell? ⟨w.heap.size, 1, none⟩ = some y) ∧ Below w.heap.size w ((w'.setCell ⟨w.heap.size, 0, none⟩ x).setCell ⟨w.heap.size, 1, none⟩ y)) := Lib.hid fun w' x y hb => by
    have h0 := (hb.block _ hlt0).trans hh0
    have h1 := setCell_head h0 0 x
    have h2 := setCell_head h1 1 y
    have bb := hb2.trans (hb.mono hb2.size)
    exact ⟨⟨cell_in h2 rfl, cell_in h2 rfl⟩, (bb.setCell (Nat.le_refl _) _).setCell (Nat.le_refl _) _⟩
  have HOld : Hid (∀ w', Below w2.heap.size w2 w' → (w'.cell? ⟨w.heap.size, 0, none⟩ = some (.int .u64 0) ∧ w'.frozen? ⟨w.heap.size, 0, none⟩ = false) ∧ ∀ x, (w'.setCell ⟨w.heap.size, 0, none⟩ x).cell? ⟨w.heap.size, 1, none⟩ = some (.int .u64 0) ∧ (w'.setCell ⟨w.heap.size, 0, none⟩ x).frozen? ⟨w.heap.size, 1, none⟩ = false) := Lib.hid fun w' hb => by
    have h0 := (hb.block _ hlt0).trans hh0
    exact ⟨⟨cell_in h0 rfl, frozen_in h0 0⟩, fun x => ⟨cell_in (setCell_head h0 0 x) rfl, frozen_in (setCell_head h0 0 x) 1⟩⟩
  have hms := h.l64.1
  have hq := h.l64.2
  have hnx : nextN ms q now = if lessN (ms, q) (u, 0) then ((u, 0), true) else if q < 18446744073709551615 then ((ms, q + 1), true) else if ms < 18446744073709551615 then ((ms + 1, 0), true) else ((0, 0), false) := by unfold nextN; rw [hu]
  obtain ⟨y, hy⟩ : ∃ y, lessN (ms, q) (u, 0) = y := ⟨_, rfl⟩
  rw [hy] at HBl hnx
  obtain ⟨c0, c1⟩ := HC.out w2 (Below.refl _ _)
  obtain ⟨X1, f, hX1, hf, hF⟩ := classOf (fun x => (x.cell? ⟨s, 1, none⟩ = some (.int .u64 ms) ∧ x.cell? ⟨s, 2, none⟩ = some (.int .u64 q)) ∧ x.cell? ⟨w1.heap.size, 0, none⟩ = some (.int .u64 u) ∧ x.cell? ⟨w1.heap.size, 1, none⟩ = some (.int .u64 (0 : Nat))) (w := w2) ⟨c0, c1⟩
  have f1 := fun x => (hf x).1.1
  have f2 := fun x => (hf x).1.2
  have f3 := fun x => (hf x).2.1
  have f4 := fun x => (hf x).2.2
  have HF1 := Lib.hid hF
  have HFa := Lib.hid (hF w2.drew ⟨c0, c1⟩)
  have HW := Lib.hid hw1
  have HWb := Lib.hid hwb
  have HWp := Lib.hid hw2p
  have HWn := Lib.hid hw2n
  have HNX := Lib.hid (And.intro hnx (And.intro hms hq))
  obtain ⟨N, hN⟩ : ∃ N, nextN ms q now = N := ⟨_, rfl⟩
  rw [hN] at HNX ⊢
  clear hF hf h h2 hw1 hwb hw2p hw2n hb1 hbb hb2 hh0 hh1 hhb hhb0 hh2 hlt0 hlt2 hu hy c0 c1 hms hq hnx hN hlo hhi hz1
  unfold ptrV at *
  rcases Decidable.em (0 < now) with hp | hp
  · have e0 : decide (0 < now) = true := decide_eq_true hp
    have hwr' := hwr hp
    have HW2 := Lib.hid (HWp.out hp)
    clear hp hwr HWp HWn
    go_enter Tryd.func44, Tryd.ntmps44
    go_upto_region 1 with (fail)
    rw [← HW.out]
    go_upto_region 4 with (fail)
    rw [← HWb.out]
    go_upto_region 6 with (fail)
    rw [← HW2.out]
    refine wp_region_text ⟨[5], [], 5⟩ (fun w' => ∃ x : X1, w' = f x) (by kernel_rfl) (by kernel_rfl) HFa.out ?_
    refine wpC_seg false (HFa.out) 5 0 _ _ (by rfl) (by rfl) ?_
    simp only [List.take_succ_cons, List.take_zero, List.drop_succ_cons, List.drop_zero, Bool.false_eq_true, if_false, Nat.zero_add, Nat.reduceAdd]
    repeat (go_big_quiet_step (fail))
    refine wpQuiet_nil ?_
    refine wpC_loud (by rfl) (by rfl) fun K hK => ?_
    go_wp2_with fail
    refine (HBl.out _).mono ?_
    rintro e w3 ⟨rfl, b3⟩
    have HB3 := Lib.hid ((belowN (Below.refl w2.heap.size w2) 1).trans b3)
    refine hK _ _ (fun h => absurd h (by decide)) ?_
    clear hK b3
    refine wpC_nil ?_
    clear hwr' hwr2
    cases y
    case' true =>
      have hN := HNX.out.1
      simp only [if_true] at hN
      subst hN
      obtain ⟨⟨d1, d2⟩, d3, d4⟩ := HC.out w3 HB3.out
      obtain ⟨⟨q0, g0⟩, hq1⟩ := HOld.out w3 HB3.out
      clear f1 f2 f3 f4 hX1 HF1 HFa f
      go_wp2_with fail
      exact bodyPost_ret (v := .tuple #[.agg #[.int .u64 u, .int .u64 (0 : Nat)], .bool true]) (by have h := (HEnd.out w3 (.int .u64 u) (.int .u64 (0 : Nat)) HB3.out).1; simp at h; simp [results, Tryd.results44, go_sem, h.1, h.2]) rfl ⟨rfl, (HEnd.out w3 _ _ HB3.out).2⟩
    case' false =>
      have hN := HNX.out.1
      have hms := HNX.out.2.1
      rcases Nat.lt_or_ge q 18446744073709551615 with hq | hq
      · have eq1 : decide ((q : Int) < 18446744073709551615) = true := decide_eq_true (by omega)
        have eq1' : decide (q < 18446744073709551615) = true := decide_eq_true (by omega)
        have hwq : IntKind.u64.wrap ((q : Int) + 1) = ((q + 1 : Nat) : Int) := by rw [IntKind.wrap_u64]; omega
        simp only [Bool.false_eq_true, if_false, if_pos hq] at hN
        subst hN
        clear hq hms HNX
        obtain ⟨⟨d1, d2⟩, d3⟩ := HC.out w3 HB3.out
        go_upto_region 9 with (fail)
        have HB4 := Lib.hid (belowN HB3.out 1)
        have HFb := Lib.hid (HF1.out w3.drew (HC.out w3.drew HB4.out))
        obtain ⟨⟨q0, g0⟩, hq1⟩ := HOld.out w3 HB3.out
        refine wp_region_text ⟨[12], [13], 12⟩ (fun w' => ∃ x : X1, w' = f x) (by kernel_rfl) (by kernel_rfl) HFb.out ?_
        refine wpC_seg false (HFb.out) 12 0 _ _ (by rfl) (by rfl) ?_
        simp only [List.take_succ_cons, List.take_zero, List.drop_succ_cons, List.drop_zero, Bool.false_eq_true, if_false, Nat.zero_add, Nat.reduceAdd]
        repeat (go_big_quiet_step (fail))
        refine wpQuiet_nil ?_
        clear eq1 eq1' hwq
        refine wpC_loud (by rfl) (by rfl) fun K hK => ?_
        go_wp2_with fail
        refine hK _ _ (fun h => absurd h (by decide)) ?_
        clear hK
        refine wpC_segD 1 13 _ _ (by rfl) (by rfl) ?_
        simp only [List.take_succ_cons, List.take_zero, List.drop_succ_cons, List.drop_zero, if_true, Nat.zero_add, Nat.reduceAdd]
        repeat (go_big_quiet_step (fail))
        refine wpQuiet_nil ?_
        refine wpC_nil ?_
        clear f1 f2 f3 f4 hX1 HF1 HFa HFb f
        go_wp2_with fail
        exact bodyPost_ret (v := .tuple #[.agg #[.int .u64 ms, .int .u64 ((q + 1 : Nat) : Int)], .bool true]) (by have h := (HEnd.out w3 (.int .u64 ms) (.int .u64 ((q + 1 : Nat) : Int)) HB3.out).1; simp at h; simp [results, Tryd.results44, go_sem, h.1, h.2]) rfl ⟨rfl, belowN (HEnd.out w3 _ _ HB3.out).2 1⟩
      · have eq1 : decide ((q : Int) < 18446744073709551615) = false := decide_eq_false (by omega)
        have eq1' : decide (q < 18446744073709551615) = false := decide_eq_false (by omega)
        simp only [Bool.false_eq_true, if_false, if_neg (show ¬ q < 18446744073709551615 by omega)] at hN
        clear hq
        obtain ⟨⟨d1, d2⟩, d3⟩ := HC.out w3 HB3.out
        obtain ⟨⟨q0, g0⟩, hq1⟩ := HOld.out w3 HB3.out
        rcases Nat.lt_or_ge ms 18446744073709551615 with hm | hm
        · have eq2 : decide ((ms : Int) < 18446744073709551615) = true := decide_eq_true (by omega)
          have eq2' : decide (ms < 18446744073709551615) = true := decide_eq_true (by omega)
          have hwm : IntKind.u64.wrap ((ms : Int) + 1) = ((ms + 1 : Nat) : Int) := by rw [IntKind.wrap_u64]; omega
          simp only [if_pos hm] at hN
          subst hN
          clear hm hms HNX f1 f2 f3 f4 hX1 HF1 HFa f
          go_wp2_with fail
          exact bodyPost_ret (v := .tuple #[.agg #[.int .u64 ((ms + 1 : Nat) : Int), .int .u64 (0 : Nat)], .bool true]) (by have h := (HEnd.out w3 (.int .u64 ((ms + 1 : Nat) : Int)) (.int .u64 (0 : Nat)) HB3.out).1; simp at h; simp [results, Tryd.results44, go_sem, h.1, h.2]) rfl ⟨rfl, (HEnd.out w3 _ _ HB3.out).2⟩
        · have eq2 : decide ((ms : Int) < 18446744073709551615) = false := decide_eq_false (by omega)
          have eq2' : decide (ms < 18446744073709551615) = false := decide_eq_false (by omega)
          simp only [if_neg (show ¬ ms < 18446744073709551615 by omega)] at hN
          subst hN
          clear hm hms HNX f1 f2 f3 f4 hX1 HF1 HFa f
          go_wp2_with fail
          exact bodyPost_ret (v := .tuple #[.agg #[.int .u64 (0 : Nat), .int .u64 (0 : Nat)], .bool false]) (by have h := (HEnd.out w3 (.int .u64 (0 : Nat)) (.int .u64 (0 : Nat)) HB3.out).1; simp at h; simp [results, Tryd.results44, go_sem, h.1, h.2]) rfl ⟨rfl, (HEnd.out w3 _ _ HB3.out).2⟩
  · have e0 : decide (0 < now) = false := decide_eq_false hp
    have HW2 := Lib.hid (HWn.out hp)
    clear hp hwr HWp HWn cb0 fb0
    go_enter Tryd.func44, Tryd.ntmps44
    go_upto_region 1 with (fail)
    rw [← HW.out]
    go_upto_region 6 with (fail)
    rw [← HWb.out, ← HW2.out]
    refine wp_region_text ⟨[5], [], 5⟩ (fun w' => ∃ x : X1, w' = f x) (by kernel_rfl) (by kernel_rfl) HFa.out ?_
    refine wpC_seg false (HFa.out) 5 0 _ _ (by rfl) (by rfl) ?_
    simp only [List.take_succ_cons, List.take_zero, List.drop_succ_cons, List.drop_zero, Bool.false_eq_true, if_false, Nat.zero_add, Nat.reduceAdd]
    repeat (go_big_quiet_step (fail))
    refine wpQuiet_nil ?_
    refine wpC_loud (by rfl) (by rfl) fun K hK => ?_
    go_wp2_with fail
    refine (HBl.out _).mono ?_
    rintro e w3 ⟨rfl, b3⟩
    have HB3 := Lib.hid ((belowN (Below.refl w2.heap.size w2) 1).trans b3)
    refine hK _ _ (fun h => absurd h (by decide)) ?_
    clear hK b3
    refine wpC_nil ?_
    clear hwr2
    cases y
    case' true =>
      have hN := HNX.out.1
      simp only [if_true] at hN
      subst hN
      obtain ⟨⟨d1, d2⟩, d3, d4⟩ := HC.out w3 HB3.out
      obtain ⟨⟨q0, g0⟩, hq1⟩ := HOld.out w3 HB3.out
      clear f1 f2 f3 f4 hX1 HF1 HFa f
      go_wp2_with fail
      exact bodyPost_ret (v := .tuple #[.agg #[.int .u64 u, .int .u64 (0 : Nat)], .bool true]) (by have h := (HEnd.out w3 (.int .u64 u) (.int .u64 (0 : Nat)) HB3.out).1; simp at h; simp [results, Tryd.results44, go_sem, h.1, h.2]) rfl ⟨rfl, (HEnd.out w3 _ _ HB3.out).2⟩
    case' false =>
      have hN := HNX.out.1
      have hms := HNX.out.2.1
      rcases Nat.lt_or_ge q 18446744073709551615 with hq | hq
      · have eq1 : decide ((q : Int) < 18446744073709551615) = true := decide_eq_true (by omega)
        have eq1' : decide (q < 18446744073709551615) = true := decide_eq_true (by omega)
        have hwq : IntKind.u64.wrap ((q : Int) + 1) = ((q + 1 : Nat) : Int) := by rw [IntKind.wrap_u64]; omega
        simp only [Bool.false_eq_true, if_false, if_pos hq] at hN
        subst hN
        clear hq hms HNX
        obtain ⟨⟨d1, d2⟩, d3⟩ := HC.out w3 HB3.out
        go_upto_region 9 with (fail)
        have HB4 := Lib.hid (belowN HB3.out 1)
        have HFb := Lib.hid (HF1.out w3.drew (HC.out w3.drew HB4.out))
        obtain ⟨⟨q0, g0⟩, hq1⟩ := HOld.out w3 HB3.out
        refine wp_region_text ⟨[12], [13], 12⟩ (fun w' => ∃ x : X1, w' = f x) (by kernel_rfl) (by kernel_rfl) HFb.out ?_
        refine wpC_seg false (HFb.out) 12 0 _ _ (by rfl) (by rfl) ?_
        simp only [List.take_succ_cons, List.take_zero, List.drop_succ_cons, List.drop_zero, Bool.false_eq_true, if_false, Nat.zero_add, Nat.reduceAdd]
        repeat (go_big_quiet_step (fail))
        refine wpQuiet_nil ?_
        clear eq1 eq1' hwq
        refine wpC_loud (by rfl) (by rfl) fun K hK => ?_
        go_wp2_with fail
        refine hK _ _ (fun h => absurd h (by decide)) ?_
        clear hK
        refine wpC_segD 1 13 _ _ (by rfl) (by rfl) ?_
        simp only [List.take_succ_cons, List.take_zero, List.drop_succ_cons, List.drop_zero, if_true, Nat.zero_add, Nat.reduceAdd]
        repeat (go_big_quiet_step (fail))
        refine wpQuiet_nil ?_
        refine wpC_nil ?_
        clear f1 f2 f3 f4 hX1 HF1 HFa HFb f
        go_wp2_with fail
        exact bodyPost_ret (v := .tuple #[.agg #[.int .u64 ms, .int .u64 ((q + 1 : Nat) : Int)], .bool true]) (by have h := (HEnd.out w3 (.int .u64 ms) (.int .u64 ((q + 1 : Nat) : Int)) HB3.out).1; simp at h; simp [results, Tryd.results44, go_sem, h.1, h.2]) rfl ⟨rfl, belowN (HEnd.out w3 _ _ HB3.out).2 1⟩
      · have eq1 : decide ((q : Int) < 18446744073709551615) = false := decide_eq_false (by omega)
        have eq1' : decide (q < 18446744073709551615) = false := decide_eq_false (by omega)
        simp only [Bool.false_eq_true, if_false, if_neg (show ¬ q < 18446744073709551615 by omega)] at hN
        clear hq
        obtain ⟨⟨d1, d2⟩, d3⟩ := HC.out w3 HB3.out
        obtain ⟨⟨q0, g0⟩, hq1⟩ := HOld.out w3 HB3.out
        rcases Nat.lt_or_ge ms 18446744073709551615 with hm | hm
        · have eq2 : decide ((ms : Int) < 18446744073709551615) = true := decide_eq_true (by omega)
          have eq2' : decide (ms < 18446744073709551615) = true := decide_eq_true (by omega)
          have hwm : IntKind.u64.wrap ((ms : Int) + 1) = ((ms + 1 : Nat) : Int) := by rw [IntKind.wrap_u64]; omega
          simp only [if_pos hm] at hN
          subst hN
          clear hm hms HNX f1 f2 f3 f4 hX1 HF1 HFa f
          go_wp2_with fail
          exact bodyPost_ret (v := .tuple #[.agg #[.int .u64 ((ms + 1 : Nat) : Int), .int .u64 (0 : Nat)], .bool true]) (by have h := (HEnd.out w3 (.int .u64 ((ms + 1 : Nat) : Int)) (.int .u64 (0 : Nat)) HB3.out).1; simp at h; simp [results, Tryd.results44, go_sem, h.1, h.2]) rfl ⟨rfl, (HEnd.out w3 _ _ HB3.out).2⟩
        · have eq2 : decide ((ms : Int) < 18446744073709551615) = false := decide_eq_false (by omega)
          have eq2' : decide (ms < 18446744073709551615) = false := decide_eq_false (by omega)
          simp only [if_neg (show ¬ ms < 18446744073709551615 by omega)] at hN
          subst hN
          clear hm hms HNX f1 f2 f3 f4 hX1 HF1 HFa f
          go_wp2_with fail
          exact bodyPost_ret (v := .tuple #[.agg #[.int .u64 (0 : Nat), .int .u64 (0 : Nat)], .bool false]) (by have h := (HEnd.out w3 (.int .u64 (0 : Nat)) (.int .u64 (0 : Nat)) HB3.out).1; simp at h; simp [results, Tryd.results44, go_sem, h.1, h.2]) rfl ⟨rfl, (HEnd.out w3 _ _ HB3.out).2⟩
end Go.Proofs.YtbjpfnafhhbmaaaDoor.Sad

/- The document's Delete. -/
namespace Go.Proofs.YtbjpfnafhhbmaaaDoor.Sad
open Go.Proofs.YtbjpfnafhhbmaaaDoor
set_option linter.unusedVariables false
set_option linter.unusedSimpArgs false
open Go.RowKit RT Go.Shelf
section
variable {w w' : World} {s : Nat} {v : Value} {R : Nat → Prop} {Vs : List Told} {E : List Ent} {l : Nat × Nat}
/-- An entry of it. -/
theorem RefO.get (h : RefO w s v R Vs E l) {k : Nat} (hk : k < E.length) : ∃ g o c x e, v = .slice (some ⟨g, o, none⟩) E.length c ∧ Vs[k]? = some x ∧ E[k]? = some e ∧ RowIs w R x e ∧
    w.cell? ⟨g, o + k * 3, none⟩ = some (.int .u64 x.1) ∧ w.cell? ⟨g, o + k * 3 + 1, none⟩ = some (.int .u64 x.2.1) ∧ w.cell? ⟨g, o + k * 3 + 1 + 1, none⟩ = some (vC x.2.2) := by
  have hl := h.len
  have hkV : k < Vs.length := by omega
  obtain ⟨g, o, c, hv, d0⟩ := h.row.cell (i := k * 3 + 0) (by omega)
  obtain ⟨g1, o1, c1, hv1, d1⟩ := h.row.cell (i := k * 3 + 1) (by omega)
  obtain ⟨g2, o2, c2, hv2, d2⟩ := h.row.cell (i := k * 3 + 2) (by omega)
  rw [hv] at hv1 hv2
  cases hv1
  cases hv2
  rw [flatE Vs k hkV _ (by omega)] at d0 d1 d2
  rw [hl] at hv
  refine ⟨g, o, c, Vs[k], E[k], hv, List.getElem?_eq_getElem _, List.getElem?_eq_getElem _, h.rows.get k hkV hk, ?_, ?_, ?_⟩
  · simpa [entV] using d0
  · rw [show o + k * 3 + 1 = o + (k * 3 + 1) by omega]; simpa [entV] using d1
  · rw [show o + k * 3 + 1 + 1 = o + (k * 3 + 2) by omega]; simpa [entV] using d2
/-- What stays. -/
def keptV (Vs : List Told) (a b : Nat) : List Told := Vs.filter fun x => !decide (idT2 x = (a, b))
theorem keptV_succ {k : Nat} {x : Told} (h : Vs[k]? = some x) (a b : Nat) : keptV (Vs.take (k + 1)) a b = keptV (Vs.take k) a b ++ if idT2 x = (a, b) then [] else [x] := by
  obtain ⟨hk, rfl⟩ := List.getElem?_eq_some_iff.1 h
  unfold keptV
  rw [List.take_succ_eq_append_getElem hk, List.filter_append]
  by_cases h' : idT2 Vs[k] = (a, b) <;> simp [h']
theorem keptV_le (Vs : List Told) (a b : Nat) : (keptV Vs a b).length ≤ Vs.length := List.length_filter_le _ _
theorem filter_any (E : List Ent) (p : Ent → Bool) : decide ((E.filter fun e => !p e).length < E.length) = E.any p := by
  induction E with
  | nil => rfl
  | cons e E ih =>
    rw [List.filter_cons, List.any_cons]
    have hle := List.length_filter_le (fun e => !p e) E
    cases hp : p e
    · simp only [Bool.not_false, if_true, List.length_cons, Bool.false_or, ← ih, decide_eq_decide]
      omega
    · simp only [Bool.not_true, Bool.false_eq_true, if_false, List.length_cons, Bool.true_or, decide_eq_true_eq]
      omega
end
set_option maxHeartbeats 3200000 in
set_option maxRecDepth 100000 in
theorem refS_del {w : World} {s : Nat} {F : Nat → Prop} {E : List Ent} {l : Nat × Nat} (h : RefS s E l w F) (hn : E.length ≤ 400000) (a b : Nat) :
    Calls Tryd.prog 45 #[ptrV s, .agg #[.int .u64 a, .int .u64 b]] w fun e w' => e = .returned (.bool (E.any fun e => decide (e.1 = (a, b)))) ∧ ∃ F', RefS s (E.filter fun e => !decide (e.1 = (a, b))) l w' F' ∧ Fresh w F F' ∧ Chg F w w' := by
  obtain ⟨v, R, Vs, h, hF⟩ := h
  obtain ⟨w1, hw1⟩ : ∃ w1, w1 = w.alloc (.cells #[.int .u64 a, .int .u64 b] 24) := ⟨_, rfl⟩
  have hb1 : Below w.heap.size w w1 := by rw [hw1]; exact (Below.refl _ _).alloc (Nat.le_refl _) _
  have hh1 : w1.heap[w.heap.size]? = some (.cells #[.int .u64 a, .int .u64 b] 24 (0, 0)) := by rw [hw1]; exact heap_new _ _
  obtain ⟨i0, g1, g2, g3, g4⟩ := info_parts info_entry
  obtain ⟨N, hN⟩ : ∃ N, E.length = N := ⟨_, rfl⟩
  obtain ⟨av, cv, hv, hcv, _⟩ := h.form
  rw [hN] at hv
  subst hv
  have HB := Lib.hid (show ∀ w', Below w1.heap.size w1 w' → w'.heap[w.heap.size]? = some (.cells #[.int .u64 a, .int .u64 b] 24 (0, 0)) ∧ RefO w' s (.slice av N cv) R Vs E l from fun w' hb => ⟨(hb.block _ (heap_lt hh1)).trans hh1, (h.below hb1).below hb⟩)
  have H := Lib.hid (And.intro h (And.intro hF (And.intro hb1 (And.intro hN (And.intro g1 (And.intro g2 (And.intro g3 g4)))))))
  have HW := Lib.hid hw1
  have hn2 : N ≤ 400000 := by omega
  obtain ⟨q, hq⟩ : ∃ q, (E.any fun e => decide (e.1 = (a, b))) = q := ⟨_, rfl⟩
  have HQ := Lib.hid ((filter_any E fun e => decide (e.1 = (a, b))).trans hq)
  rw [hq]
  have HI0 := Lib.hid (show SliceN w1 w1.heap.size 39 3 (.slice none 0 0) (keptV (Vs.take 0) a b).length ((keptV (Vs.take 0) a b).flatMap entV) ∧ Below w1.heap.size w1 w1 from ⟨SliceN.nil _ _ _ _, Below.refl _ _⟩)
  clear h hF hw1 hb1 hh1 g1 g2 g3 g4 hN hn hcv hq
  unfold ptrV
  go_enter Tryd.func45, Tryd.ntmps45
  go_upto_region 1 with (fail)
  rw [← HW.out]
  go_wp2_with fail
  go_loopw [5, 6] (fun out i wr => ∃ k : Nat, k ≤ N ∧ i = .int .i64 k ∧ Hid (SliceN wr w1.heap.size 39 3 out (keptV (Vs.take k) a b).length ((keptV (Vs.take k) a b).flatMap entV) ∧ Below w1.heap.size w1 wr)) (fun _ i _ => N - (intOf i).toNat)
  case atStart => exact ⟨0, Nat.zero_le _, rfl, HI0⟩
  case round =>
    obtain ⟨k, hk, rfl, hI⟩ := hrel
    obtain ⟨oa, oc, rfl, hoc, hom⟩ := hI.out.1.form
    obtain ⟨hx1, hx2⟩ := HB.out wr hI.out.2
    have c0 := cell_in hx2.head (i := 0) rfl
    by_cases hlt : k < N
    · obtain ⟨g, o, c, x, e, hv, hVk, hEk, hri, d0, d1, d2⟩ := hx2.get (k := k) (by rw [H.out.2.2.2.1]; exact hlt)
      rw [H.out.2.2.2.1] at hv
      cases hv
      have hsucc := keptV_succ hVk a b
      obtain ⟨xm, xq, xa, xn, xc⟩ := x
      dsimp only [vC] at d0 d1 d2
      obtain ⟨t1, ht1⟩ : ∃ t, ((xm : Int) == (a : Int)) = t := ⟨_, rfl⟩
      obtain ⟨t2, ht2⟩ : ∃ t, ((xq : Int) == (b : Int)) = t := ⟨_, rfl⟩
      have hT : idT2 (xm, xq, xa, xn, xc) = (a, b) ↔ (t1 && t2) = true := by
        rw [← ht1, ← ht2]
        simp [idT2]
        omega
      have HT := Lib.hid hT
      have HS := Lib.hid hsucc
      have HK := Lib.hid hlt
      obtain ⟨X1, fw, hX1, hfw, hFc⟩ := classOf (fun w' => (w'.cell? ⟨w.heap.size, 0, none⟩ = some (.int .u64 a) ∧ w'.cell? ⟨w.heap.size, 1, none⟩ = some (.int .u64 b)) ∧ w'.cell? ⟨s, 0, none⟩ = some (.slice (some ⟨g, o, none⟩) N cv) ∧ w'.cell? ⟨g, o + k * 3, none⟩ = some (.int .u64 xm) ∧ w'.cell? ⟨g, o + k * 3 + 1, none⟩ = some (.int .u64 xq)) (w := wr.drew) ⟨⟨cell_in hx1 rfl, cell_in hx1 rfl⟩, c0, d0, d1⟩
      have f1 := fun x => (hfw x).1.1
      have f2 := fun x => (hfw x).1.2
      have f3 := fun x => (hfw x).2.1
      have f4 := fun x => (hfw x).2.2.1
      have f5 := fun x => (hfw x).2.2.2
      have hd0 := hFc wr.drew ⟨⟨cell_in hx1 rfl, cell_in hx1 rfl⟩, c0, d0, d1⟩
      have d0' : wr.drew.cell? ⟨g, o + k * 3, none⟩ = some (.int .u64 xm) := d0
      have d1' : wr.drew.cell? ⟨g, o + k * 3 + 1, none⟩ = some (.int .u64 xq) := d1
      have d2' : wr.drew.cell? ⟨g, o + k * 3 + 1 + 1, none⟩ = some (.slice xa xn xc) := d2
      have c0' : wr.drew.cell? ⟨s, 0, none⟩ = some (.slice (some ⟨g, o, none⟩) N cv) := c0
      have hbd : Below w1.heap.size w1 wr.drew := hI.out.2.trans ((belowN (Below.refl wr.heap.size wr) 1).mono hI.out.2.size)
      have hsd : SliceN wr.drew w1.heap.size 39 3 (.slice oa (keptV (Vs.take k) a b).length oc) (keptV (Vs.take k) a b).length ((keptV (Vs.take k) a b).flatMap entV) := hI.out.1.below (belowN (Below.refl wr.heap.size wr) 1)
      obtain ⟨m, hm⟩ : ∃ m, (keptV (Vs.take k) a b).length = m := ⟨_, rfl⟩
      have hmk : m ≤ k := by rw [← hm]; exact Nat.le_trans (keptV_le _ _ _) (by rw [List.length_take]; omega)
      rw [hm] at hsd
      obtain ⟨_, _, _, _, g1, g2, g3, g4⟩ := H.out
      obtain ⟨v', W2, hrn, s2, c2, hv2⟩ := run_append_oneN (P := Tryd.prog) (t := 34) (ty := 34) (z := 3) (w := wr.drew) Tryd.underlying34 g1 g2 g3 g4 rfl hsd hbd.size (entV (xm, xq, xa, xn, xc)) rfl (by simp [entV, vC, Value.oneCell']) (by unfold maxLen; omega) (by omega)
      have HA := Lib.hid hrn
      obtain ⟨va', vc', rfl, _, _⟩ := s2.form
      have HN := Lib.hid (And.intro s2 (belowChg hbd c2 hbd.size fun j hj _ => (hsd.block_lt hj).1))
      have HD := Lib.hid (And.intro hsd hbd)
      have HNk := Lib.hid (show (t1 && t2) = false → SliceN W2 w1.heap.size 39 3 (.slice va' (m + 1) vc') (keptV (Vs.take (k + 1)) a b).length ((keptV (Vs.take (k + 1)) a b).flatMap entV) ∧ Below w1.heap.size w1 W2 from fun ht => by
        rw [HS.out, if_neg (fun h => by rw [HT.out.1 h] at ht; cases ht), List.length_append, hm, List.flatMap_append]
        exact ⟨by simpa using s2, HN.out.2⟩)
      have HNs := Lib.hid (show (t1 && t2) = true → SliceN wr.drew w1.heap.size 39 3 (.slice oa m oc) (keptV (Vs.take (k + 1)) a b).length ((keptV (Vs.take (k + 1)) a b).flatMap entV) ∧ Below w1.heap.size w1 wr.drew from fun ht => by
        rw [HS.out, if_pos (HT.out.2 ht), List.append_nil, hm]
        exact HD.out)
      dsimp only [entV, vC] at HA
      clear hx1 hx2 hVk hEk hri hsucc hT hfw hFc d0 d1 d2 hbd hsd hmk hrn s2 c2 hv2 g1 g2 g3 g4 hI
      rw [hm]
      cases t1 <;> cases t2
      all_goals
        go_upto_region 7 with (fail)
        refine wp_region_text ⟨[], [], 10⟩ (fun w' => ∃ x : X1, w' = fw x) (by kernel_rfl) (by kernel_rfl) hd0 ?_
        refine wpC_seg false (hd0) 10 0 _ _ (by rfl) (by rfl) ?_
        simp only [List.take_succ_cons, List.take_zero, List.drop_succ_cons, List.drop_zero, Bool.false_eq_true, if_false, Nat.zero_add, Nat.reduceAdd]
        repeat (go_big_quiet_step (fail))
        refine wpQuiet_nil ?_
        refine wpC_nil ?_
        clear f1 f2 f3 f4 f5 hX1 hd0 fw X1
      all_goals first
        | (have hx := HNs.out rfl
           go_wp2_with fail
           go_roundw
           case rel => exact ⟨k + 1, HK.out, by go_num, Lib.hid hx⟩
           case measure => have := HK.out; simp [intOf]; omega)
        | (have hx := HNk.out rfl
           have HX := Lib.hid hx
           clear hx
           go_wp2_with (at_builtin; refine wpList_append_run rfl rfl HA.out ?_)
           go_roundw
           case rel => exact ⟨k + 1, HK.out, by go_num, HX⟩
           case measure => have := HK.out; simp [intOf]; omega)
    · obtain rfl : N = k := by omega
      have hl := hx2.len
      rw [H.out.2.2.2.1] at hl
      have hs := hI.out.1
      rw [List.take_of_length_le (by omega)] at hs hoc ⊢
      obtain ⟨m, hm⟩ : ∃ m, (keptV Vs a b).length = m := ⟨_, rfl⟩
      rw [hm] at hs hoc ⊢
      have hrows := Rows2.filter (p := fun e => !decide (e.1 = (a, b))) hx2.rows
      have hml : (E.filter fun e => !decide (e.1 = (a, b))).length = m := by rw [← Rows2.length hrows, ← hm]; rfl
      have hqv := HQ.out
      rw [hml, H.out.2.2.2.1] at hqv
      have d0 := frozen_in hx2.head 0
      obtain ⟨w2, hw2⟩ : ∃ w2, w2 = wr.setCell ⟨s, 0, none⟩ (.slice oa m oc) := ⟨_, rfl⟩
      have hc : Chg (fun k => k = s) wr w2 := by rw [hw2]; exact Chg.setCell (fun k => k = s) _ _ _ rfl
      have hsb : s < w.heap.size := heap_lt H.out.1.head
      have hob : ∀ k, vblock (.slice oa m oc) = some k → w1.heap.size ≤ k := fun k hk => (hs.block_lt hk).1
      have hsz := H.out.2.2.1.size
      have HE := Lib.hid (show ∃ F', RefS s (E.filter fun e => !decide (e.1 = (a, b))) l w2 F' ∧ Fresh w F F' ∧ Chg F w w2 from by
        refine ⟨fun k => k = s ∨ vblock (.slice oa m oc) = some k ∨ R k, ⟨.slice oa m oc, R, keptV Vs a b, ⟨?_, ?_, Rows2.chg hc (fun k hk e => H.out.1.ns (by have e' : k = s := e; rw [← e']; exact hk)) hrows, H.out.1.ns, fun e => ?_, fun k hk hR => ?_, fun k hk => Nat.lt_of_lt_of_le (hx2.rlt k hk) hc.size, H.out.1.l64⟩, fun k => Iff.rfl⟩, ?_, ?_⟩
        · rw [hw2]; exact setCell_head hx2.head 0 _
        · rw [hm]
          refine hs.toO.chg hc fun k hk e => ?_
          have e' : k = s := e
          have := hob k hk
          omega
        · have := hob s e; omega
        · have := hob k hk
          have := H.out.1.rlt k hR
          omega
        · rintro k (rfl | hk | hk)
          · exact .inl ((H.out.2.1 _).2 (.inl rfl))
          · exact .inr (Nat.le_trans hsz (hob k hk))
          · exact .inl ((H.out.2.1 _).2 (.inr (.inr hk)))
        · exact (Chg.of_below F (H.out.2.2.1.trans (hI.out.2.mono hsz))).trans hc fun k hk _ => (H.out.2.1 k).2 (.inl hk))
      have HW2 := Lib.hid hw2
      clear hx1 hx2 hl hs hm hrows hml hw2 hc hsb hob hsz hI hoc hom hlt
      go_wp2_with fail
      rw [← HW2.out]
      go_ret
      exact ⟨rfl, HE.out⟩
end Go.Proofs.YtbjpfnafhhbmaaaDoor.Sad

/- The document's Range. -/
namespace Go.Proofs.YtbjpfnafhhbmaaaDoor.Sad
open Go.Proofs.YtbjpfnafhhbmaaaDoor
set_option linter.unusedVariables false
set_option linter.unusedSimpArgs false
open Go.RowKit RT Go.Shelf
theorem entRow_of {w : World} {a : Option Addr} {n c : Nat} {Us : List Told} {Q : Nat → Prop} {G : List Ent} (h : SliceO w 39 3 (.slice a n c) n (Us.flatMap entV)) (hr : Rows2 w Q Us G) (hn : Us.length = n) : EntRow w a n c G := by
  have hl := hr.length
  obtain ⟨a', c', e, h1, _⟩ := h.form
  cases e
  refine ⟨by omega, h1, ?_⟩
  rcases Nat.eq_zero_or_pos n with h0 | h0
  · exact .inl h0
  · obtain ⟨g, o, c', e, _⟩ := h.cell (i := 0) (by omega)
    cases e
    refine .inr ⟨g, o, rfl, fun i hi => ?_⟩
    have hi2 : i < Us.length := by omega
    have hri := hr.get i hi2 hi
    refine ⟨Us[i], fun j hj => ?_, hri.1, hri.2.1, hri.2.2.1.2⟩
    obtain ⟨g', o', c', e, hc⟩ := h.cell (i := i * 3 + j) (by omega)
    cases e
    rw [Nat.add_assoc, hc, flatE Us i hi2 j hj]
theorem take_rows {w : World} {Q : Nat → Prop} : ∀ {xs : List Told} {es : List Ent} (k : Nat), Rows2 w Q xs es → Rows2 w Q (xs.take k) (es.take k)
  | [], [], _, _ => by rw [List.take_nil, List.take_nil]; trivial
  | x :: xs, e :: es, 0, h => trivial
  | x :: xs, e :: es, k + 1, h => ⟨h.1, take_rows k h.2⟩
  | [], _ :: _, _, h => h.elim
  | _ :: _, [], _, h => h.elim
def inB (f t i : Nat × Nat) : Bool := !lessN i f && !lessN t i
def inV (Vs : List Told) (f t : Nat × Nat) : List Told := Vs.filter fun x => inB f t (idT2 x)
theorem inV_succ {Vs : List Told} {k : Nat} {x : Told} (h : Vs[k]? = some x) (f t : Nat × Nat) : inV (Vs.take (k + 1)) f t = inV (Vs.take k) f t ++ if inB f t (idT2 x) then [x] else [] := by
  obtain ⟨hk, rfl⟩ := List.getElem?_eq_some_iff.1 h
  unfold inV
  rw [List.take_succ_eq_append_getElem hk, List.filter_append]
  by_cases h' : inB f t (idT2 Vs[k]) = true <;> simp [h']
theorem inV_le (Vs : List Told) (f t : Nat × Nat) : (inV Vs f t).length ≤ Vs.length := List.length_filter_le _ _
theorem take_prefix {α : Type} {A : List α} {p : α → Bool} {k m : Nat} (h : ((A.take k).filter p).length = m) : (A.filter p).take m = (A.take k).filter p := by
  conv => lhs; rw [← List.take_append_drop k A, List.filter_append]
  rw [← h]
  exact List.take_left
set_option maxHeartbeats 6400000 in
set_option maxRecDepth 100000 in
theorem refS_range {w : World} {s : Nat} {F : Nat → Prop} {E : List Ent} {l : Nat × Nat} (h : RefS s E l w F) (hn : E.length ≤ 400000) {a b c d : Nat} {most : Int} (hm1 : -9223372036854775808 ≤ most) (hm2 : most ≤ 9223372036854775807) :
    Calls Tryd.prog 47 #[ptrV s, .agg #[.int .u64 a, .int .u64 b], .agg #[.int .u64 c, .int .u64 d], .int .i64 most] w fun e w' => ∃ G, G = (E.filter fun e => inB (a, b) (c, d) e.1).take most.toNat ∧ ∃ a' c', e = .returned (.slice a' G.length c') ∧ EntRow w' a' G.length c' G ∧ Below w.heap.size w w' := by
  have hS := h
  obtain ⟨v, R, Vs, h, hF⟩ := h
  obtain ⟨w0, hw0⟩ : ∃ w0, w0 = w.alloc (.cells #[.int .u64 a, .int .u64 b] 24) := ⟨_, rfl⟩
  have hb0 : Below w.heap.size w w0 := by rw [hw0]; exact (Below.refl _ _).alloc (Nat.le_refl _) _
  have hh0 : w0.heap[w.heap.size]? = some (.cells #[.int .u64 a, .int .u64 b] 24 (0, 0)) := by rw [hw0]; exact heap_new _ _
  have hz0 : w0.heap.size = w.heap.size + 1 := by rw [hw0]; simp
  obtain ⟨w1, hw1⟩ : ∃ w1, w1 = w0.alloc (.cells #[.int .u64 c, .int .u64 d] 24) := ⟨_, rfl⟩
  have hb1 : Below w.heap.size w w1 := by rw [hw1]; exact hb0.alloc hb0.size _
  have hh1 : w1.heap[w.heap.size]? = some (.cells #[.int .u64 a, .int .u64 b] 24 (0, 0)) := by rw [hw1]; exact heap_old hh0 _
  have hh2 : w1.heap[w.heap.size + 1]? = some (.cells #[.int .u64 c, .int .u64 d] 24 (0, 0)) := by rw [hw1, ← hz0]; exact heap_new _ _
  obtain ⟨i0, g1, g2, g3, g4⟩ := info_parts info_entry
  obtain ⟨N, hN⟩ : ∃ N, E.length = N := ⟨_, rfl⟩
  obtain ⟨av, cv, hv, hcv, _⟩ := h.form
  rw [hN] at hv
  subst hv
  have HB := Lib.hid (show ∀ w', Below w1.heap.size w1 w' → (w'.heap[w.heap.size]? = some (.cells #[.int .u64 a, .int .u64 b] 24 (0, 0)) ∧ w'.heap[w.heap.size + 1]? = some (.cells #[.int .u64 c, .int .u64 d] 24 (0, 0))) ∧ RefO w' s (.slice av N cv) R Vs E l ∧ RefS s E l w' F from fun w' hb => ⟨⟨(hb.block _ (heap_lt hh1)).trans hh1, (hb.block _ (heap_lt hh2)).trans hh2⟩, (h.below hb1).below hb, (hS.below hb1).below hb⟩)
  have H := Lib.hid (And.intro h (And.intro hm1 (And.intro hb1 (And.intro hN (And.intro g1 (And.intro g2 (And.intro g3 g4)))))))
  have HW := Lib.hid (hw1.trans (by rw [hw0]))
  have HW0 := Lib.hid hw0
  have hn2 : N ≤ 400000 := by omega
  have HI0 := Lib.hid (show SliceN w1 w1.heap.size 39 3 (.slice none 0 0) (inV (Vs.take 0) (a, b) (c, d)).length ((inV (Vs.take 0) (a, b) (c, d)).flatMap entV) ∧ Below w1.heap.size w1 w1 ∧ (inV (Vs.take 0) (a, b) (c, d)).length ≤ most.toNat from ⟨SliceN.nil _ _ _ _, Below.refl _ _, Nat.zero_le _⟩)
  obtain ⟨G, hG⟩ : ∃ G, G = (E.filter fun e => inB (a, b) (c, d) e.1).take most.toNat := ⟨_, rfl⟩
  have HG := Lib.hid hG
  clear h hF hw1 hb1 hh1 hh2 hw0 hb0 hh0 g1 g2 g3 g4 hN hn hcv hG hS
  unfold ptrV
  go_enter Tryd.func47, Tryd.ntmps47
  go_upto_region 1 with (fail)
  rw [← HW.out]
  clear hz0 HW0 HW
  go_wp2_with fail
  go_loopw [9, 10] (fun out i wr => ∃ k : Nat, k ≤ N ∧ i = .int .i64 k ∧ Hid (SliceN wr w1.heap.size 39 3 out (inV (Vs.take k) (a, b) (c, d)).length ((inV (Vs.take k) (a, b) (c, d)).flatMap entV) ∧ Below w1.heap.size w1 wr ∧ (inV (Vs.take k) (a, b) (c, d)).length ≤ most.toNat)) (fun _ i _ => N - (intOf i).toNat)
  case atStart => exact ⟨0, Nat.zero_le _, rfl, HI0⟩
  case round =>
    obtain ⟨k, hk, rfl, hI⟩ := hrel
    obtain ⟨oa, oc, rfl, hoc, hom⟩ := hI.out.1.form
    obtain ⟨⟨hx1, hx1'⟩, hx2, hx3⟩ := HB.out wr hI.out.2.1
    have hL := refS_len hx3
    rw [H.out.2.2.2.1] at hL
    unfold ptrV at hL
    have HL := Lib.hid hL
    have c0 := cell_in hx2.head (i := 0) rfl
    obtain ⟨m, hm⟩ : ∃ m, (inV (Vs.take k) (a, b) (c, d)).length = m := ⟨_, rfl⟩
    have hmk : m ≤ k := by rw [← hm]; exact Nat.le_trans (inV_le _ _ _) (by rw [List.length_take]; omega)
    have hI2 := hI.out
    rw [hm] at hI2 hoc
    rw [hm]
    clear hL
    by_cases hlt : k < N ∧ (m : Int) < most
    · obtain ⟨hlt, hltm⟩ := hlt
      have e2 : decide ((m : Int) < most) = true := decide_eq_true hltm
      obtain ⟨g, o, c', x, e, hv, hVk, hEk, hri, d0, d1, d2⟩ := hx2.get (k := k) (by rw [H.out.2.2.2.1]; exact hlt)
      rw [H.out.2.2.2.1] at hv
      cases hv
      have hsucc := inV_succ hVk (a, b) (c, d)
      obtain ⟨xm, xq, xa, xn, xc⟩ := x
      dsimp only [vC] at d0 d1 d2
      obtain ⟨y1, hy1⟩ : ∃ y, lessN (xm, xq) (a, b) = y := ⟨_, rfl⟩
      obtain ⟨y2, hy2⟩ : ∃ y, lessN (c, d) (xm, xq) = y := ⟨_, rfl⟩
      have hb1 := fun w' => refBelow xm xq a b w'
      have hb2 := fun w' => refBelow c d xm xq w'
      rw [hy1] at hb1
      rw [hy2] at hb2
      have HBl1 := Lib.hid hb1
      have HBl2 := Lib.hid hb2
      have hin : inB (a, b) (c, d) (idT2 (xm, xq, xa, xn, xc)) = (!y1 && !y2) := by rw [← hy1, ← hy2]; rfl
      rw [hin] at hsucc
      have HS := Lib.hid hsucc
      have HK := Lib.hid (And.intro hlt hltm)
      have hCl : ∀ w', Below w1.heap.size w1 w' → ((w'.cell? ⟨w.heap.size, 0, none⟩ = some (.int .u64 a) ∧ w'.cell? ⟨w.heap.size, 1, none⟩ = some (.int .u64 b)) ∧ w'.cell? ⟨w.heap.size + 1, 0, none⟩ = some (.int .u64 c) ∧ w'.cell? ⟨w.heap.size + 1, 1, none⟩ = some (.int .u64 d)) ∧ w'.cell? ⟨s, 0, none⟩ = some (.slice (some ⟨g, o, none⟩) N cv) ∧ w'.cell? ⟨g, o + k * 3, none⟩ = some (.int .u64 xm) ∧ w'.cell? ⟨g, o + k * 3 + 1, none⟩ = some (.int .u64 xq) ∧ w'.cell? ⟨g, o + k * 3 + 1 + 1, none⟩ = some (.slice xa xn xc) := fun w' hb => by
        obtain ⟨⟨q1, q2⟩, q3, _⟩ := HB.out w' hb
        obtain ⟨g', o', c', x', e', hv', hVk', _, _, k0, k1, k2⟩ := q3.get (k := k) (by rw [H.out.2.2.2.1]; exact hlt)
        rw [hVk] at hVk'
        cases hVk'
        cases hv'
        exact ⟨⟨⟨cell_in q1 rfl, cell_in q1 rfl⟩, cell_in q2 rfl, cell_in q2 rfl⟩, cell_in q3.head rfl, k0, k1, k2⟩
      have hdr : Below w1.heap.size w1 wr.drew := hI.out.2.1.trans ((belowN (Below.refl wr.heap.size wr) 1).mono hI.out.2.1.size)
      obtain ⟨X1, fw, hX1, hfw, hFc⟩ := classOf (fun w' => ((w'.cell? ⟨w.heap.size, 0, none⟩ = some (.int .u64 a) ∧ w'.cell? ⟨w.heap.size, 1, none⟩ = some (.int .u64 b)) ∧ w'.cell? ⟨w.heap.size + 1, 0, none⟩ = some (.int .u64 c) ∧ w'.cell? ⟨w.heap.size + 1, 1, none⟩ = some (.int .u64 d)) ∧ w'.cell? ⟨s, 0, none⟩ = some (.slice (some ⟨g, o, none⟩) N cv) ∧ w'.cell? ⟨g, o + k * 3, none⟩ = some (.int .u64 xm) ∧ w'.cell? ⟨g, o + k * 3 + 1, none⟩ = some (.int .u64 xq) ∧ w'.cell? ⟨g, o + k * 3 + 1 + 1, none⟩ = some (.slice xa xn xc)) (w := wr.drew) (hCl _ hdr)
      have f1 := fun x => (hfw x).1.1.1
      have f2 := fun x => (hfw x).1.1.2
      have f3 := fun x => (hfw x).1.2.1
      have f4 := fun x => (hfw x).1.2.2
      have f5 := fun x => (hfw x).2.1
      have f6 := fun x => (hfw x).2.2.1
      have f7 := fun x => (hfw x).2.2.2.1
      have HFa := Lib.hid (fun w' hb => hFc w' (hCl w' hb))
      have HCl := Lib.hid hCl
      have HDr := Lib.hid hdr
      have HM := Lib.hid (And.intro hm (And.intro hmk hI2))
      clear hx1 hx1' hx2 hx3 hVk hEk hri hsucc hfw hFc d0 d1 d2 hmk hI2 hI hm hin hy1 hy2 hb1 hb2 hCl hdr hom hoc
      go_wp2_with fail
      refine HL.out.mono ?_
      rintro e' w' ⟨rfl, hww⟩
      rw [hww]
      clear hww w'
      go_upto_region 5 with (fail)
      refine wp_region_text ⟨[9, 21], [22, 23], 21⟩ (fun w' => ∃ x : X1, w' = fw x) (by kernel_rfl) (by kernel_rfl) (HFa.out _ HDr.out) ?_
      refine wpC_seg false (HFa.out _ HDr.out) 9 0 _ _ (by rfl) (by rfl) ?_
      simp only [List.take_succ_cons, List.take_zero, List.drop_succ_cons, List.drop_zero, Bool.false_eq_true, if_false, Nat.zero_add, Nat.reduceAdd]
      repeat (go_big_quiet_step (fail))
      refine wpQuiet_nil ?_
      refine wpC_loud (by rfl) (by rfl) fun K hK => ?_
      go_wp2_with fail
      refine (HBl1.out _).mono ?_
      rintro e' w2 ⟨rfl, b2⟩
      have hb2 := HDr.out.trans (b2.mono HDr.out.size)
      have HB2 := Lib.hid hb2
      have HR2 := Lib.hid ((belowN (Below.refl wr.heap.size wr) 1).trans b2)
      refine hK _ _ (fun _ => HFa.out _ hb2) ?_
      clear hK b2 hb2
      cases y1 with
      | false =>
        refine wpC_seg false (HFa.out _ HB2.out) 11 10 _ _ (by rfl) (by rfl) ?_
        simp only [List.take_succ_cons, List.take_zero, List.drop_succ_cons, List.drop_zero, Bool.false_eq_true, if_false, Nat.zero_add, Nat.reduceAdd]
        repeat (go_big_quiet_step (fail))
        refine wpQuiet_nil ?_
        refine wpC_loud (by rfl) (by rfl) fun K hK => ?_
        go_wp2_with fail
        refine (HBl2.out _).mono ?_
        rintro e' w3 ⟨rfl, b3⟩
        have HB3 := Lib.hid (HB2.out.trans (b3.mono HB2.out.size))
        have HR3 := Lib.hid (HR2.out.trans (b3.mono HR2.out.size))
        refine hK _ _ (fun h => absurd h (by decide)) ?_
        clear hK b3
        refine wpC_segD 2 22 _ _ (by rfl) (by rfl) ?_
        simp only [List.take_succ_cons, List.take_zero, List.drop_succ_cons, List.drop_zero, if_true, Nat.zero_add, Nat.reduceAdd]
        repeat (go_big_quiet_step (fail))
        refine wpQuiet_nil ?_
        refine wpC_nil ?_
        clear f1 f2 f3 f4 f5 f6 f7 hX1 HFa fw X1
        cases y2 with
        | true =>
          have HN := Lib.hid (show SliceN w3 w1.heap.size 39 3 (.slice oa m oc) (inV (Vs.take (k + 1)) (a, b) (c, d)).length ((inV (Vs.take (k + 1)) (a, b) (c, d)).flatMap entV) ∧ Below w1.heap.size w1 w3 ∧ (inV (Vs.take (k + 1)) (a, b) (c, d)).length ≤ most.toNat from by
            have hs := HS.out
            rw [show (!false && !true) = false from rfl, if_neg (by decide), List.append_nil] at hs
            rw [hs, HM.out.1]
            exact ⟨HM.out.2.2.1.below HR3.out, HB3.out, HM.out.2.2.2.2⟩)
          go_wp2_with fail
          go_roundw
          case rel => exact ⟨k + 1, HK.out.1, by go_num, HN⟩
          case measure => have := HK.out.1; simp [intOf]; omega
        | false =>
          have hs := HS.out
          rw [show (!false && !false) = true from rfl, if_pos rfl] at hs
          obtain ⟨_, _, _, _, g1, g2, g3, g4⟩ := H.out
          obtain ⟨v', W2, hrn, s2, c2, hv2⟩ := run_append_oneN (P := Tryd.prog) (t := 34) (ty := 34) (z := 3) (w := w3) Tryd.underlying34 g1 g2 g3 g4 rfl (HM.out.2.2.1.below HR3.out) HB3.out.size (entV (xm, xq, xa, xn, xc)) rfl (by simp [entV, vC, Value.oneCell']) (by have := HM.out.2.1; unfold maxLen; omega) (by have := HM.out.2.1; omega)
          have HA := Lib.hid hrn
          obtain ⟨va', vc', rfl, _, _⟩ := s2.form
          have HN := Lib.hid (show SliceN W2 w1.heap.size 39 3 (.slice va' (m + 1) vc') (inV (Vs.take (k + 1)) (a, b) (c, d)).length ((inV (Vs.take (k + 1)) (a, b) (c, d)).flatMap entV) ∧ Below w1.heap.size w1 W2 ∧ (inV (Vs.take (k + 1)) (a, b) (c, d)).length ≤ most.toNat from by
            rw [hs, List.length_append, HM.out.1, List.flatMap_append]
            refine ⟨by simpa using s2, belowChg HB3.out c2 HB3.out.size fun j hj _ => (HM.out.2.2.1.block_lt hj).1, ?_⟩
            have := HK.out.2
            simp
            omega)
          dsimp only [entV, vC] at HA
          obtain ⟨_, d0, d1, d2, d3⟩ := HCl.out w3 HB3.out
          clear hrn s2 c2 hv2 g1 g2 g3 g4 hs
          go_wp2_with (at_builtin; refine wpList_append_run rfl rfl HA.out ?_)
          go_roundw
          case rel => exact ⟨k + 1, HK.out.1, by go_num, HN⟩
          case measure => have := HK.out.1; simp [intOf]; omega
      | true =>
        refine wpC_seg false (HFa.out _ HB2.out) 11 10 _ _ (by rfl) (by rfl) ?_
        simp only [List.take_succ_cons, List.take_zero, List.drop_succ_cons, List.drop_zero, Bool.false_eq_true, if_false, Nat.zero_add, Nat.reduceAdd]
        repeat (go_big_quiet_step (fail))
        refine wpQuiet_nil ?_
        refine wpC_skip (by rfl) (by rfl) (fun h => absurd h (by decide)) ?_
        simp only [Act.put, List.setIfInBounds_toArray, List.set_cons_succ, List.set_cons_zero]
        refine wpC_segD 2 22 _ _ (by rfl) (by rfl) ?_
        simp only [List.take_succ_cons, List.take_zero, List.drop_succ_cons, List.drop_zero, if_true, Nat.zero_add, Nat.reduceAdd]
        repeat (go_big_quiet_step (fail))
        refine wpQuiet_nil ?_
        refine wpC_nil ?_
        clear f1 f2 f3 f4 f5 f6 f7 hX1 HFa fw X1
        have HN := Lib.hid (show SliceN w2 w1.heap.size 39 3 (.slice oa m oc) (inV (Vs.take (k + 1)) (a, b) (c, d)).length ((inV (Vs.take (k + 1)) (a, b) (c, d)).flatMap entV) ∧ Below w1.heap.size w1 w2 ∧ (inV (Vs.take (k + 1)) (a, b) (c, d)).length ≤ most.toNat from by
          have hs := HS.out
          rw [show (!true && !y2) = false from rfl, if_neg (by decide), List.append_nil] at hs
          rw [hs, HM.out.1]
          exact ⟨HM.out.2.2.1.below HR2.out, HB2.out, HM.out.2.2.2.2⟩)
        go_wp2_with fail
        go_roundw
        case rel => exact ⟨k + 1, HK.out.1, by go_num, HN⟩
        case measure => have := HK.out.1; simp [intOf]; omega
    · have hrows := Rows2.filter (p := fun e => inB (a, b) (c, d) e.1) (take_rows k hx2.rows)
      have hml : ((E.take k).filter fun e => inB (a, b) (c, d) e.1).length = m := by rw [← Rows2.length hrows, ← hm]; rfl
      have hEN := H.out.2.2.2.1
      have hGk : G = (E.take k).filter fun e => inB (a, b) (c, d) e.1 := by
        rw [HG.out]
        rcases Nat.lt_or_ge k N with hkN | hkN
        · have : most.toNat = m := by
            have := hI2.2.2
            have : ¬ ((m : Int) < most) := fun h => hlt ⟨hkN, h⟩
            omega
          rw [this]
          exact take_prefix hml
        · rw [List.take_of_length_le (l := E) (by omega)] at hml ⊢
          exact List.take_of_length_le (by rw [hml]; exact hI2.2.2)
      have hGm : G.length = m := by rw [hGk, hml]
      have HE := Lib.hid (show EntRow wr oa m oc G ∧ Below w.heap.size w wr from by
        refine ⟨?_, H.out.2.2.1.trans (hI2.2.1.mono H.out.2.2.1.size)⟩
        rw [hGk]
        exact entRow_of hI2.1.toO hrows hm)
      have HGm := Lib.hid hGm
      have hkk : k < N ∧ ¬ ((m : Int) < most) ∨ N = k := by
        rcases Nat.lt_or_ge k N with hkN | hkN
        · exact .inl ⟨hkN, fun h => hlt ⟨hkN, h⟩⟩
        · exact .inr (by omega)
      clear hx1 hx1' hx2 hx3 hmk hI2 hI hm hrows hml hEN hGk hGm hlt hom hoc
      rcases hkk with ⟨hlt, hms⟩ | rfl
      · have e2 : decide ((m : Int) < most) = false := decide_eq_false hms
        clear hms
        go_wp2_with fail
        refine HL.out.mono ?_
        rintro e' w' ⟨rfl, hww⟩
        rw [hww]
        clear hww w'
        go_wp2_with fail
        go_ret
        exact ⟨G, HG.out, oa, oc, by rw [HGm.out]; rfl, by rw [HGm.out]; exact HE.out.1, HE.out.2⟩
      · go_wp2_with fail
        refine HL.out.mono ?_
        rintro e' w' ⟨rfl, hww⟩
        rw [hww]
        clear hww w'
        go_wp2_with fail
        go_ret
        exact ⟨G, HG.out, oa, oc, by rw [HGm.out]; rfl, by rw [HGm.out]; exact HE.out.1, HE.out.2⟩
end Go.Proofs.YtbjpfnafhhbmaaaDoor.Sad

/- The document's Charge. -/
namespace Go.Proofs.YtbjpfnafhhbmaaaDoor.Sad
open Go.Proofs.YtbjpfnafhhbmaaaDoor
set_option linter.unusedVariables false
set_option linter.unusedSimpArgs false
open Go.RowKit RT Go.Shelf
theorem costE_append (A B : List Ent) : costE (A ++ B) = costE A + costE B := by
  unfold costE
  rw [List.map_append, List.foldl_append, foldl_add]
theorem pairsCost_cat (A B : List PairT) : pairsCost (A ++ B) = pairsCost A + pairsCost B := by
  unfold pairsCost
  rw [List.map_append, List.foldl_append, foldl_add]
theorem costE_succ {E : List Ent} {k : Nat} {e : Ent} (h : E[k]? = some e) : costE (E.take (k + 1)) = costE (E.take k) + (32 + pairsCost e.2) := by
  obtain ⟨hk, rfl⟩ := List.getElem?_eq_some_iff.1 h
  rw [List.take_succ_eq_append_getElem hk, costE_append]
  congr 1
  simp [costE]
theorem costE_take (E : List Ent) (k : Nat) : costE (E.take k) ≤ costE E := by
  conv => rhs; rw [← List.take_append_drop k E, costE_append]
  omega
theorem pairsCost_take (L : List PairT) (k : Nat) : pairsCost (L.take k) ≤ pairsCost L := by
  conv => rhs; rw [← List.take_append_drop k L, pairsCost_cat]
  omega
theorem pairsCost_next {L : List PairT} {k : Nat} (hk : k < L.length) : pairsCost (L.take (k + 1)) = pairsCost (L.take k) + (16 + (L.getD k e0).1.size + (L.getD k e0).2.size) := by
  rw [List.take_succ_eq_append_getElem hk, pairsCost_append]
  simp [List.getD, hk]
set_option maxHeartbeats 6400000 in
set_option maxRecDepth 100000 in
theorem refS_charge {w : World} {s : Nat} {F : Nat → Prop} {E : List Ent} {l : Nat × Nat} (h : RefS s E l w F) (hn : E.length ≤ 400000) (hc : costE E ≤ 281474976710656) :
    Calls Tryd.prog 51 #[ptrV s] w fun e w' => e = .returned (.int .i64 (costE E : Nat)) ∧ Below w.heap.size w w' := by
  have hS := h
  obtain ⟨v, R, Vs, h, hF⟩ := h
  obtain ⟨N, hN⟩ : ∃ N, E.length = N := ⟨_, rfl⟩
  obtain ⟨av, cv, hv, hcv, _⟩ := h.form
  rw [hN] at hv
  subst hv
  have HB := Lib.hid (show ∀ w', Below w.heap.size w w' → RefO w' s (.slice av N cv) R Vs E l ∧ RefS s E l w' F from fun w' hb => ⟨h.below hb, hS.below hb⟩)
  have H := Lib.hid (And.intro hN hc)
  have hn2 : N ≤ 400000 := by omega
  obtain ⟨C, hC⟩ : ∃ C, costE E = C := ⟨_, rfl⟩
  rw [hC]
  have HC := Lib.hid hC
  clear h hF hS hN hn hcv hc hC
  unfold ptrV
  go_enter Tryd.func51, Tryd.ntmps51
  go_wp2_with fail
  go_loopw [3, 4, 5] (fun n i _ wr => ∃ k : Nat, k ≤ N ∧ i = .int .i64 k ∧ n = .int .i64 (costE (E.take k) : Nat) ∧ Hid (Below w.heap.size w wr)) (fun _ i _ _ => N - (intOf i).toNat)
  case atStart => exact ⟨0, Nat.zero_le _, rfl, rfl, Lib.hid (Below.refl _ _)⟩
  case round =>
    obtain ⟨k, hk, rfl, rfl, hI⟩ := hrel
    obtain ⟨hx2, hx3⟩ := HB.out wr hI.out
    have hL := refS_len hx3
    rw [H.out.1] at hL
    unfold ptrV at hL
    have HL := Lib.hid hL
    have c0 := cell_in hx2.head (i := 0) rfl
    obtain ⟨T, hT⟩ : ∃ T, costE (E.take k) = T := ⟨_, rfl⟩
    have hTb : T ≤ 281474976710656 := by rw [← hT]; exact Nat.le_trans (costE_take E k) H.out.2
    rw [hT]
    clear hL
    by_cases hlt : k < N
    · obtain ⟨g, o, c', x, e, hv, hVk, hEk, hri, d0, d1, d2⟩ := hx2.get (k := k) (by rw [H.out.1]; exact hlt)
      rw [H.out.1] at hv
      cases hv
      have hsucc := costE_succ hEk
      have hle := Nat.le_trans (costE_take E (k + 1)) H.out.2
      rw [hT] at hsucc
      rw [hsucc] at hle
      obtain ⟨xm, xq, xa, xn, xc⟩ := x
      obtain ⟨eid, L⟩ := e
      dsimp only [vC] at d0 d1 d2 hsucc hle
      have hp : PairRow wr xa xn xc L := hri.2.1
      have hxn : xn ≤ 4000000000000 := hri.2.2.1.2
      have hcell : ∀ w', Below wr.heap.size wr w' → w'.cell? ⟨s, 0, none⟩ = some (.slice (some ⟨g, o, none⟩) N cv) ∧ w'.cell? ⟨g, o + k * 3 + 2, none⟩ = some (.slice xa xn xc) := fun w' hb => by
        have := (hx2.below hb).get (k := k) (by rw [H.out.1]; exact hlt)
        obtain ⟨g', o', c', x', e', hv', hVk', _, _, k0, k1, k2⟩ := this
        rw [hVk] at hVk'
        cases hVk'
        cases hv'
        exact ⟨cell_in (hx2.below hb).head rfl, k2⟩
      have HCell := Lib.hid hcell
      have HPr := Lib.hid (And.intro hp (And.intro hsucc (And.intro hle hlt)))
      have hT32 : T + 32 + pairsCost L ≤ 281474976710656 := by omega
      clear hx2 hx3 hVk hEk hri d0 d1 d2 hsucc hle hp hcell hT
      go_wp2_with fail
      refine HL.out.mono ?_
      rintro e' w' ⟨rfl, hww⟩
      rw [hww]
      clear hww w'
      go_wp2_with fail
      go_loopw [3, 5] (fun n j wq => ∃ q : Nat, q ≤ xn ∧ j = .int .i64 q ∧ n = .int .i64 (T + 32 + pairsCost (L.take q) : Nat) ∧ Hid (Below wr.heap.size wr wq)) (fun _ j _ => xn - (intOf j).toNat)
      case atStart => exact ⟨0, Nat.zero_le _, rfl, by simp [pairsCost], Lib.hid (Below.refl _ _)⟩
      case round =>
        obtain ⟨q, hq, rfl, rfl, hJ⟩ := hrel
        obtain ⟨u0, u2⟩ := HCell.out wr hJ.out
        obtain ⟨S, hS⟩ : ∃ S, T + 32 + pairsCost (L.take q) = S := ⟨_, rfl⟩
        have hSb : S ≤ 281474976710656 := by rw [← hS]; have := pairsCost_take L q; omega
        rw [hS]
        by_cases hqn : q < xn
        · obtain ⟨pb, po, rfl, _, p0, p1⟩ := (HPr.out.1.below hJ.out).cells hqn
          have hnx := pairsCost_next (L := L) (k := q) (by rw [HPr.out.1.1]; exact hqn)
          obtain ⟨f, hf⟩ : ∃ f, L.getD q e0 = f := ⟨_, rfl⟩
          rw [hf] at p0 p1 hnx
          obtain ⟨f1, f2⟩ := f
          dsimp only at p0 p1 hnx
          have hSn : T + 32 + pairsCost (L.take (q + 1)) = S + (16 + f1.size + f2.size) := by rw [hnx, ← hS]; omega
          have hSb2 : S + 16 + f1.size + f2.size ≤ 281474976710656 := by
            have := pairsCost_take L (q + 1)
            omega
          obtain ⟨X1, fw, hX1, hfw, hFc⟩ := classOf (fun w' => (w'.cell? ⟨s, 0, none⟩ = some (.slice (some ⟨g, o, none⟩) N cv) ∧ w'.cell? ⟨g, o + k * 3 + 2, none⟩ = some (.slice (some ⟨pb, po, none⟩) xn xc)) ∧ w'.cell? ⟨pb, po + q * 2, none⟩ = some (.string f1) ∧ w'.cell? ⟨pb, po + q * 2 + 1, none⟩ = some (.string f2)) (w := wr.drew) ⟨⟨u0, u2⟩, p0, p1⟩
          have k1 := fun x => (hfw x).1.1
          have k2 := fun x => (hfw x).1.2
          have k3 := fun x => (hfw x).2.1
          have k4 := fun x => (hfw x).2.2
          have hd0 := hFc wr.drew ⟨⟨u0, u2⟩, p0, p1⟩
          have HN := Lib.hid (And.intro hSn (belowN hJ.out 1))
          have HK := Lib.hid hqn
          have hkN := HPr.out.2.2.2
          clear hfw hFc p0 p1 hnx hf hSn hS
          go_upto_region 9 with (fail)
          refine wp_region_text ⟨[], [], 31⟩ (fun w' => ∃ x : X1, w' = fw x) (by kernel_rfl) (by kernel_rfl) hd0 ?_
          refine wpC_seg false (hd0) 31 0 _ _ (by rfl) (by rfl) ?_
          simp only [List.take_succ_cons, List.take_zero, List.drop_succ_cons, List.drop_zero, Bool.false_eq_true, if_false, Nat.zero_add, Nat.reduceAdd]
          repeat (go_big_quiet_step (fail))
          refine wpQuiet_nil ?_
          refine wpC_nil ?_
          clear k1 k2 k3 k4 hX1 hd0 fw X1
          go_wp2_with fail
          go_roundw
          case rel => exact ⟨q + 1, HK.out, by go_num, by have := HN.out.1; congr 1; omega, Lib.hid HN.out.2⟩
          case measure => have := HK.out; simp [intOf]; omega
        · obtain rfl : xn = q := by omega
          have hfull : L.take xn = L := List.take_of_length_le (by rw [HPr.out.1.1]; exact Nat.le_refl _)
          rw [hfull] at hS
          have HN := Lib.hid (show costE (E.take (k + 1)) = S ∧ Below w.heap.size w wr from ⟨by rw [HPr.out.2.1, ← hS]; omega, hI.out.trans (hJ.out.mono hI.out.size)⟩)
          have hkN := HPr.out.2.2.2
          have HK := Lib.hid hkN
          clear hS hfull
          go_wp2_with fail
          go_roundw
          case rel => exact ⟨k + 1, HK.out, by go_num, by rw [HN.out.1], Lib.hid HN.out.2⟩
          case measure => have := HK.out; simp [intOf]; omega
    · obtain rfl : N = k := by omega
      rw [List.take_of_length_le (by rw [H.out.1]; exact Nat.le_refl _), HC.out] at hT
      subst hT
      have HI := Lib.hid hI.out
      clear hI hx2 hx3
      go_wp2_with fail
      refine HL.out.mono ?_
      rintro e' w' ⟨rfl, hww⟩
      rw [hww]
      clear hww w'
      go_wp2_with fail
      go_ret
      exact ⟨rfl, HI.out⟩
end Go.Proofs.YtbjpfnafhhbmaaaDoor.Sad

/- The document's Add. -/
namespace Go.Proofs.YtbjpfnafhhbmaaaDoor.Sad
open Go.Proofs.YtbjpfnafhhbmaaaDoor
set_option linter.unusedVariables false
set_option linter.unusedSimpArgs false
open Go.RowKit RT Go.Shelf
set_option maxHeartbeats 1600000 in
/-- A row of pairs appended to nil. -/
theorem clone_nil {w : World} {b o n c : Nat} {L : List PairT} (h : PairRow w (some ⟨b, o, none⟩) n c L) (h0 : 0 < n) (hn : n ≤ 4000000) :
    ∃ g c' W2, (Builtin.append_ #[37, 37] 37 #[.slice none 0 0, .slice (some ⟨b, o, none⟩) n c]).run Tryd.prog w = .ok (.slice (some ⟨g, 0, none⟩) n c') W2 ∧ PairRow W2 (some ⟨g, 0, none⟩) n c' L ∧ w.heap.size ≤ g ∧ g < W2.heap.size ∧ Below w.heap.size w W2 := by
  have hL := h.1
  obtain ⟨i0, g1, g2, g3, g4⟩ := info_parts info_pair
  obtain ⟨b', o', he, hc⟩ := h.2.2.resolve_left (by omega)
  cases he
  have hnews : ∀ j u, (L.flatMap pairC)[j]? = some u → w.cell? ((⟨b, o, none⟩ : Addr).add j) = some u := fun j u hu => by
    have hj : j < (L.flatMap pairC).length := by
      rcases Nat.lt_or_ge j (L.flatMap pairC).length with h | h
      · exact h
      · rw [List.getElem?_eq_none h] at hu; cases hu
    rw [flatP_len, hL] at hj
    rw [Addr.add_lit]
    have hi : j / 2 < n := by omega
    have hq := flatP L (j / 2) (by omega) (j % 2) (by omega)
    rw [show j / 2 * 2 + j % 2 = j by omega] at hq
    have hgu : (L.flatMap pairC).getD j undef = u := by simp [List.getD, hu]
    have hgL : L.getD (j / 2) e0 = L[j / 2]'(by omega) := by simp [List.getD, show j / 2 < L.length by omega]
    rcases Nat.mod_two_eq_zero_or_one j with h2 | h2
    · have h1 := (hc (j / 2) hi).1
      rw [show o + j = o + j / 2 * 2 by omega, h1, ← hgu, hq, h2, hgL]
      simp [pairC]
    · have h1 := (hc (j / 2) hi).2
      rw [show o + j = o + j / 2 * 2 + 1 by omega, h1, ← hgu, hq, h2, hgL]
      simp [pairC]
  obtain ⟨v', W2, hrn, s2, c2, hv2⟩ := run_append_ownN (P := Tryd.prog) (t := 37) (ty := 37) (z := 2) (w := w) Tryd.underlying37 g1 g2 g3 g4 rfl (SliceN.nil w w.heap.size _ _) (Nat.le_refl _) ⟨b, o, none⟩ n c (L.flatMap pairC) h0 (by rw [flatP_len, hL]) hnews (fun u hu => by
    obtain ⟨x, _, hx⟩ := List.mem_flatMap.1 hu
    simp [pairC] at hx
    rcases hx with rfl | rfl <;> rfl) (by unfold maxLen; omega) (by omega)
  rw [List.nil_append, Nat.zero_add] at s2
  obtain ⟨g, c', cur, rfl, hg, hr, _⟩ := s2.2.resolve_left (by omega)
  exact ⟨g, c', W2, hrn, PairRow.of_slice s2 hL, hg, hr.lt, belowChg (Below.refl _ _) c2 (Nat.le_refl _) fun k hk => by cases hk⟩
/-- May it be added? -/
def mayB (l : Nat × Nat) (i : Nat × Nat) (n : Nat) (L : List PairT) : Bool := decide (n ≠ 0) && !L.any longP && lessN l i
theorem any_next {L : List PairT} {k : Nat} (hk : k < L.length) : (L.take (k + 1)).any longP = ((L.take k).any longP || longP (L.getD k e0)) := by
  rw [List.take_succ_eq_append_getElem hk, List.any_append]
  simp [List.getD, hk]
theorem longP_not (f1 f2 : ByteArray) : (!longP (f1, f2)) = (decide ((f1.size : Int) ≤ 65536) && decide ((f2.size : Int) ≤ 65536)) := by
  unfold longP
  rw [Bool.eq_iff_iff]
  simp
  omega
/-- Behind an entry more. -/
def AddedTo (s : Nat) (E : List Ent) (l i : Nat × Nat) (L : List PairT) (F : Nat → Prop) (w : World) (y : Bool) (e : Ending) (w' : World) : Prop :=
  e = .returned (.int .i64 (if y then 0 else 1)) ∧ ∃ F', RefS s (if y then E ++ [(i, L)] else E) (if y then i else l) w' F' ∧ Fresh w F F' ∧ Chg F w w'
set_option maxHeartbeats 6400000 in
set_option maxRecDepth 100000 in
theorem refS_add {w : World} {s : Nat} {F : Nat → Prop} {E : List Ent} {l : Nat × Nat} (h : RefS s E l w F) (hn : E.length ≤ 400000) {a b : Nat} (ha : a < 18446744073709551616) (hb : b < 18446744073709551616)
    {pa : Option Addr} {pn pc : Nat} {L : List PairT} (hp : PairRow w pa pn pc L) (hpn : pn ≤ 4000000) :
    Calls Tryd.prog 42 #[ptrV s, .agg #[.int .u64 a, .int .u64 b, .slice pa pn pc]] w (AddedTo s E l (a, b) L F w (mayB l (a, b) pn L)) := by
  have hS := h
  obtain ⟨v, R, Vs, h, hF⟩ := h
  obtain ⟨w1, hw1⟩ : ∃ w1, w1 = w.alloc (.cells #[.int .u64 a, .int .u64 b, .slice pa pn pc] 39) := ⟨_, rfl⟩
  have hb1 : Below w.heap.size w w1 := by rw [hw1]; exact (Below.refl _ _).alloc (Nat.le_refl _) _
  have hh1 : w1.heap[w.heap.size]? = some (.cells #[.int .u64 a, .int .u64 b, .slice pa pn pc] 39 (0, 0)) := by rw [hw1]; exact heap_new _ _
  obtain ⟨N, hN⟩ : ∃ N, E.length = N := ⟨_, rfl⟩
  obtain ⟨av, cv, hv, hcv, _⟩ := h.form
  rw [hN] at hv
  subst hv
  have hd : Below w1.heap.size w1 w1.drew := belowN (Below.refl _ _) 1
  have HB := Lib.hid (show ∀ w', Below w1.heap.size w1 w' → w'.heap[w.heap.size]? = some (.cells #[.int .u64 a, .int .u64 b, .slice pa pn pc] 39 (0, 0)) ∧ RefO w' s (.slice av N cv) R Vs E l ∧ PairRow w' pa pn pc L ∧ Below w.heap.size w w' from fun w' hb => ⟨(hb.block _ (heap_lt hh1)).trans hh1, (h.below hb1).below hb, (hp.below hb1).below hb, hb1.trans (hb.mono hb1.size)⟩)
  have H := Lib.hid (And.intro hS (And.intro hF (And.intro hN (And.intro ha (And.intro hb (And.intro hp.1 h))))))
  have HW := Lib.hid hw1
  have hn2 : N ≤ 400000 := by omega
  have HD := Lib.hid hd
  have c1 := cell_in hh1 (i := 0) rfl
  have c2 := cell_in hh1 (i := 1) rfl
  have c3 := cell_in hh1 (i := 2) rfl
  obtain ⟨y0, hy0⟩ : ∃ y, lessN l (a, b) = y := ⟨_, rfl⟩
  have hbl := fun w' => refBelow l.1 l.2 a b w'
  rw [show ((l.1, l.2) : Nat × Nat) = l from rfl, hy0] at hbl
  have HBl := Lib.hid hbl
  have HY := Lib.hid hy0
  have HBad := Lib.hid (show ∀ w', mayB l (a, b) pn L = false → Below w1.heap.size w1 w' → AddedTo s E l (a, b) L F w (mayB l (a, b) pn L) (.returned (.int .i64 1)) w' from fun w' hm hb' => by
    have hbb := hb1.trans (hb'.mono hb1.size)
    rw [hm]
    exact ⟨rfl, F, hS.below hbb, fun k hk => .inl hk, Chg.of_below _ hbb⟩)
  obtain ⟨X1, fw, hX1, hfw, hFc⟩ := classOf (fun w' => (w'.cell? ⟨w.heap.size, 0, none⟩ = some (.int .u64 a) ∧ w'.cell? ⟨w.heap.size, 1, none⟩ = some (.int .u64 b) ∧ w'.cell? ⟨w.heap.size, 2, none⟩ = some (.slice pa pn pc)) ∧ w'.cell? ⟨s, 1, none⟩ = some (.int .u64 l.1) ∧ w'.cell? ⟨s, 1 + 1, none⟩ = some (.int .u64 l.2)) (w := w1.drew) (by
    have := HB.out _ hd
    exact ⟨⟨cell_in this.1 rfl, cell_in this.1 rfl, cell_in this.1 rfl⟩, cell_in this.2.1.head rfl, cell_in this.2.1.head rfl⟩)
  have f1 := fun x => (hfw x).1.1
  have f2 := fun x => (hfw x).1.2.1
  have f3 := fun x => (hfw x).1.2.2
  have f4 := fun x => (hfw x).2.1
  have f5 := fun x => (hfw x).2.2
  have hd0 := hFc w1.drew (by
    have := HB.out _ hd
    exact ⟨⟨cell_in this.1 rfl, cell_in this.1 rfl, cell_in this.1 rfl⟩, cell_in this.2.1.head rfl, cell_in this.2.1.head rfl⟩)
  clear h hF hS hw1 hb1 hh1 hN hn hcv hp ha hb hd hfw hFc hy0 hbl
  unfold ptrV
  rcases Nat.eq_zero_or_pos pn with h0 | h0
  · subst h0
    have hm : mayB l (a, b) 0 L = false := by unfold mayB; simp
    have HM := Lib.hid hm
    clear hm
    go_enter Tryd.func42, Tryd.ntmps42
    go_upto_region 3 with (fail)
    rw [← HW.out]
    refine wp_region_text ⟨[11], [12, 13], 11⟩ (fun w' => ∃ x : X1, w' = fw x) (by kernel_rfl) (by kernel_rfl) hd0 ?_
    refine wpC_seg false (hd0) 11 0 _ _ (by rfl) (by rfl) ?_
    simp only [List.take_succ_cons, List.take_zero, List.drop_succ_cons, List.drop_zero, Bool.false_eq_true, if_false, Nat.zero_add, Nat.reduceAdd]
    repeat (go_big_quiet_step (fail))
    refine wpQuiet_nil ?_
    refine wpC_skip (by rfl) (by rfl) (fun h => absurd h (by decide)) ?_
    simp only [Act.put, List.setIfInBounds_toArray, List.set_cons_succ, List.set_cons_zero]
    refine wpC_segD 2 12 _ _ (by rfl) (by rfl) ?_
    simp only [List.take_succ_cons, List.take_zero, List.drop_succ_cons, List.drop_zero, if_true, Nat.zero_add, Nat.reduceAdd]
    repeat (go_big_quiet_step (fail))
    refine wpQuiet_nil ?_
    refine wpC_nil ?_
    clear f1 f2 f3 f4 f5 hX1 hd0 fw X1
    go_wp2_with fail
    go_loopw [5, 6] (fun okv i wr => okv = .bool false ∧ i = .int .i64 0 ∧ Hid (Below w1.heap.size w1 wr)) (fun _ _ _ => 0)
    case atStart => exact ⟨rfl, rfl, HD⟩
    case round =>
      obtain ⟨rfl, rfl, hI⟩ := hrel
      have c3 := cell_in (HB.out wr hI.out).1 (i := 2) rfl
      have HI := Lib.hid hI.out
      clear hI
      go_wp2_with fail
      go_ret
      exact HBad.out _ HM.out HI.out
  · have e0 : decide ((0 : Int) < (pn : Int)) = true := decide_eq_true (by omega)
    have e0' : decide (0 < pn) = true := decide_eq_true h0
    go_enter Tryd.func42, Tryd.ntmps42
    go_upto_region 3 with (fail)
    rw [← HW.out]
    refine wp_region_text ⟨[11], [12, 13], 11⟩ (fun w' => ∃ x : X1, w' = fw x) (by kernel_rfl) (by kernel_rfl) hd0 ?_
    refine wpC_seg false (hd0) 11 0 _ _ (by rfl) (by rfl) ?_
    simp only [List.take_succ_cons, List.take_zero, List.drop_succ_cons, List.drop_zero, Bool.false_eq_true, if_false, Nat.zero_add, Nat.reduceAdd]
    repeat (go_big_quiet_step (fail))
    refine wpQuiet_nil ?_
    refine wpC_loud (by rfl) (by rfl) fun K hK => ?_
    go_wp2_with fail
    refine (HBl.out _).mono ?_
    rintro e w2 ⟨rfl, b2⟩
    have HB2 := Lib.hid (HD.out.trans (b2.mono HD.out.size))
    refine hK _ _ (fun h => absurd h (by decide)) ?_
    clear hK b2
    refine wpC_segD 2 12 _ _ (by rfl) (by rfl) ?_
    simp only [List.take_succ_cons, List.take_zero, List.drop_succ_cons, List.drop_zero, if_true, Nat.zero_add, Nat.reduceAdd]
    repeat (go_big_quiet_step (fail))
    refine wpQuiet_nil ?_
    refine wpC_nil ?_
    clear f1 f2 f3 f4 f5 hX1 hd0 fw X1 e0 e0'
    go_wp2_with fail
    go_loopw [5, 6] (fun okv i wr => ∃ k : Nat, k ≤ pn ∧ i = .int .i64 k ∧ okv = .bool (y0 && !(L.take k).any longP) ∧ Hid (Below w1.heap.size w1 wr)) (fun _ i _ => pn - (intOf i).toNat)
    case atStart => exact ⟨0, Nat.zero_le _, rfl, by simp, HB2⟩
    case round =>
      obtain ⟨k, hk, rfl, rfl, hI⟩ := hrel
      obtain ⟨hx1, hx2, hx3, hx4⟩ := HB.out wr hI.out
      have c1 := cell_in hx1 (i := 0) rfl
      have c2 := cell_in hx1 (i := 1) rfl
      have c3 := cell_in hx1 (i := 2) rfl
      obtain ⟨z, hz⟩ : ∃ z, (y0 && !(L.take k).any longP) = z := ⟨_, rfl⟩
      rw [hz]
      by_cases hlt : k < pn
      · obtain ⟨pb, po, rfl, _, p0, p1⟩ := hx3.cells hlt
        have hnx := any_next (L := L) (k := k) (by rw [H.out.2.2.2.2.2.1]; exact hlt)
        obtain ⟨f, hf⟩ : ∃ f, L.getD k e0 = f := ⟨_, rfl⟩
        rw [hf] at p0 p1 hnx
        obtain ⟨f1, f2⟩ := f
        dsimp only at p0 p1
        obtain ⟨u1, hu1⟩ : ∃ u, decide ((f1.size : Int) ≤ 65536) = u := ⟨_, rfl⟩
        obtain ⟨u2, hu2⟩ : ∃ u, decide ((f2.size : Int) ≤ 65536) = u := ⟨_, rfl⟩
        have hzn : (y0 && !(L.take (k + 1)).any longP) = (z && (u1 && u2)) := by
          rw [hnx, Bool.not_or, ← Bool.and_assoc, hz, longP_not, hu1, hu2]
        have HZ := Lib.hid hzn
        have HK := Lib.hid hlt
        have HI := Lib.hid hI.out
        clear hx1 hx2 hx3 hx4 hnx hf hzn hz hI
        cases z <;> cases u1 <;> cases u2
        all_goals
          go_wp2_with fail
          go_roundw
          case rel => exact ⟨k + 1, HK.out, by go_num, by rw [HZ.out]; rfl, HI⟩
          case measure => have := HK.out; simp [intOf]; omega
      · obtain rfl : pn = k := by omega
        have hmay : mayB l (a, b) pn L = z := by
          unfold mayB
          rw [HY.out, ← hz, List.take_of_length_le (by rw [H.out.2.2.2.2.2.1]; exact Nat.le_refl _), decide_eq_true (show pn ≠ 0 by omega)]
          simp [Bool.and_comm]
        have HM := Lib.hid hmay
        have HI := Lib.hid (And.intro hI.out (And.intro hx2 hx3))
        have d0 := cell_in hx2.head (i := 0) rfl
        clear hx1 hx2 hx3 hx4 hz hmay hlt
        cases z with
        | false =>
          go_wp2_with fail
          go_ret
          exact HBad.out _ HM.out HI.out.1
        | true =>
          have e3 : decide ((1048576 : Int) ≤ (N : Int)) = false := decide_eq_false (by omega)
          have e3' : decide (1048576 ≤ N) = false := decide_eq_false (by omega)
          go_upto_region 12 with (fail)
          obtain ⟨pb, po, rfl, _⟩ := HI.out.2.2.cells (i := 0) h0
          have hdr : Below wr.heap.size wr wr.drew := belowN (Below.refl _ _) 1
          have hdr1 := HI.out.1.trans (hdr.mono HI.out.1.size)
          obtain ⟨g, pc', W2, hrn, hp2, hg1, hg2, hbW⟩ := clone_nil (HB.out _ hdr1).2.2.1 h0 hpn
          have hbW1 := hdr1.trans (hbW.mono hdr1.size)
          obtain ⟨q1, q2, q3, q4⟩ := HB.out _ hbW1
          obtain ⟨i0, g1, g2, g3, g4⟩ := info_parts info_entry
          have hVl := q2.len
          rw [H.out.2.2.1] at hVl
          have hrow := q2.row
          rw [hVl] at hrow
          obtain ⟨v', W4, hrn4, s4, c4, hv4⟩ := run_append_oneO (P := Tryd.prog) (t := 34) (ty := 34) (z := 3) (w := W2) Tryd.underlying34 g1 g2 g3 g4 rfl hrow (entV (a, b, some ⟨g, 0, none⟩, pn, pc')) rfl (by simp [entV, vC, Value.oneCell']) (by unfold maxLen; omega) (by omega)
          have hs4 : W4.heap[s]? = some (.cells #[.slice av N cv, .int .u64 l.1, .int .u64 l.2] 78 (0, 0)) := c4.keep q2.head (fun e => q2.nv e)
          have hx4 : W4.heap[w.heap.size]? = some (.cells #[.int .u64 a, .int .u64 b, .slice (some ⟨pb, po, none⟩) pn pc] 39 (0, 0)) := c4.keep q1 (fun e => by
            have h1 := (H.out.2.2.2.2.2.2).row.block_lt e
            omega)
          have hsz1 : w.heap.size ≤ wr.drew.heap.size := (HB.out _ hdr1).2.2.2.size
          have hsl : s < w.heap.size := heap_lt H.out.2.2.2.2.2.2.head
          have havl : ∀ k, vblock (.slice av N cv) = some k → k < w.heap.size := fun k hk => H.out.2.2.2.2.2.2.row.block_lt hk
          have hbW2 : Below w.heap.size w W2 := q4
          obtain ⟨w5, hw5⟩ : ∃ w5, w5 = W4.setCell ⟨s, 0, none⟩ v' := ⟨_, rfl⟩
          have hs5 : w5.heap[s]? = some (.cells #[v', .int .u64 l.1, .int .u64 l.2] 78 (0, 0)) := by rw [hw5]; exact setCell_head hs4 0 _
          have hc5 : Chg (fun k => k = s) W4 w5 := by rw [hw5]; exact Chg.setCell (fun k => k = s) _ _ _ rfl
          have hx5 := hc5.keep hx4 (by omega)
          obtain ⟨w6, hw6⟩ : ∃ w6, w6 = (w5.setCell ⟨s, 1, none⟩ (.int .u64 a)).setCell ⟨s, 2, none⟩ (.int .u64 b) := ⟨_, rfl⟩
          have hs6 : w6.heap[s]? = some (.cells #[v', .int .u64 a, .int .u64 b] 78 (0, 0)) := by rw [hw6]; exact setCell_head (setCell_head hs5 1 _) 2 _
          have hc6 : Chg (fun k => k = s) W4 w6 := by
            rw [hw6]
            exact (hc5.trans (Chg.setCell (fun k => k = s) _ _ _ rfl) fun _ h _ => h).trans (Chg.setCell (fun k => k = s) _ _ _ rfl) fun _ h _ => h
          have hRl : ∀ k, R k → k < w.heap.size := H.out.2.2.2.2.2.2.rlt
          have hns : ¬ (R s ∨ s = g) := by
            rintro (hR | hR)
            · exact q2.ns hR
            · omega
          have hrows4 : Rows2 W4 (fun k => R k ∨ k = g) (Vs ++ [(a, b, some ⟨g, 0, none⟩, pn, pc')]) (E ++ [((a, b), L)]) := by
            refine Rows2.append (Rows2.imp (fun k _ hR => .inl hR) (Rows2.chg c4 (fun k hR e => q2.nr k e hR) q2.rows)) ⟨⟨rfl, hp2.chg c4 fun b' o' e hS => ?_, ⟨h0, by dsimp only; omega⟩, g, rfl, .inr rfl⟩, trivial⟩
            cases e
            have := havl g hS
            omega
          have hnv' : ∀ k, vblock v' = some k → vblock (.slice av N cv) = some k ∨ W2.heap.size ≤ k := fun k hk => by
            rcases hv4 with h' | ⟨k', h', h''⟩
            · exact .inl (h' ▸ hk)
            · rw [h'] at hk; cases hk; exact .inr h''
          have HE := Lib.hid (show ∃ F', RefS s (E ++ [((a, b), L)]) (a, b) w6 F' ∧ Fresh w F F' ∧ Chg F w w6 from by
            refine ⟨fun k => k = s ∨ vblock v' = some k ∨ R k ∨ k = g, ⟨v', fun k => R k ∨ k = g, Vs ++ [(a, b, some ⟨g, 0, none⟩, pn, pc')], ⟨hs6, ?_, Rows2.chg hc6 (fun k hR e => hns (by have e' : k = s := e; rw [← e']; exact hR)) hrows4, hns, fun e => ?_, fun k hk hR => ?_, fun k hR => ?_, ⟨H.out.2.2.2.1, H.out.2.2.2.2.1⟩⟩, fun k => Iff.rfl⟩, ?_, ?_⟩
            · rw [List.length_append, List.flatMap_append, hVl]
              refine SliceO.chg (by simpa using s4) hc6 fun k hk e => ?_
              have e' : k = s := e
              rcases hnv' k hk with h' | h'
              · exact q2.nv (by rw [h', e'])
              · omega
            · rcases hnv' s e with h' | h'
              · exact q2.nv h'
              · omega
            · rcases hnv' k hk with h' | h'
              · rcases hR with hR | hR
                · exact q2.nr k h' hR
                · have := havl k h'; omega
              · rcases hR with hR | hR
                · have := hRl k hR; omega
                · omega
            · have hs := c4.size
              have hs' := hc6.size
              rcases hR with hR | hR
              · have := hRl k hR; omega
              · omega
            · rintro k (rfl | hk | hk | hk)
              · exact .inl ((H.out.2.1 _).2 (.inl rfl))
              · rcases hnv' k hk with h' | h'
                · exact .inl ((H.out.2.1 _).2 (.inr (.inl h')))
                · exact .inr (by omega)
              · exact .inl ((H.out.2.1 _).2 (.inr (.inr hk)))
              · exact .inr (by omega)
            · exact ((Chg.of_below F hbW2).trans c4 fun k hk _ => (H.out.2.1 k).2 (.inr (.inl hk))).trans hc6 fun k hk _ => (H.out.2.1 k).2 (.inl hk))
          have hCl : ∀ w', Below w1.heap.size w1 w' → w'.cell? ⟨s, 0, none⟩ = some (.slice av N cv) ∧ w'.cell? ⟨w.heap.size, 0, none⟩ = some (.int .u64 a) ∧ w'.cell? ⟨w.heap.size, 1, none⟩ = some (.int .u64 b) ∧ w'.cell? ⟨w.heap.size, 2, none⟩ = some (.slice (some ⟨pb, po, none⟩) pn pc) := fun w' hb => by
            obtain ⟨r1, r2, _, _⟩ := HB.out w' hb
            exact ⟨cell_in r2.head rfl, cell_in r1 rfl, cell_in r1 rfl, cell_in r1 rfl⟩
          obtain ⟨X1, fw, hX1, hfw, hFc⟩ := classOf (fun w' => w'.cell? ⟨s, 0, none⟩ = some (.slice av N cv) ∧ w'.cell? ⟨w.heap.size, 0, none⟩ = some (.int .u64 a) ∧ w'.cell? ⟨w.heap.size, 1, none⟩ = some (.int .u64 b) ∧ w'.cell? ⟨w.heap.size, 2, none⟩ = some (.slice (some ⟨pb, po, none⟩) pn pc)) (w := wr.drew) (hCl _ hdr1)
          have f1 := fun x => (hfw x).1
          have f2 := fun x => (hfw x).2.1
          have f3 := fun x => (hfw x).2.2.1
          have f4 := fun x => (hfw x).2.2.2
          have HFa := Lib.hid (fun w' hb => hFc w' (hCl w' hb))
          have HD1 := Lib.hid hdr1
          have HDW := Lib.hid (And.intro hbW1 (show Below w1.heap.size w1 (W2.alloc (.cells (entV (a, b, some ⟨g, 0, none⟩, pn, pc')).toArray 39)) from hbW1.alloc hbW1.size _))
          have HA9 := Lib.hid hrn
          have HA12 := Lib.hid hrn4
          have k0 := cell_in hs4 (i := 0) rfl
          have l0 := frozen_in hs4 0
          have k1 := cell_in hs5 (i := 1) rfl
          have l1 := frozen_in hs5 1
          have k2 := cell_in (setCell_head hs5 1 (.int .u64 a)) (i := 2) rfl
          have l2 := frozen_in (setCell_head hs5 1 (.int .u64 a)) 2
          have m1 := cell_in hx5 (i := 0) rfl
          have m2 := cell_in hx5 (i := 1) rfl
          obtain ⟨va', vc', rfl, _, _⟩ := s4.form
          have HW5 := Lib.hid hw5
          have HW6 := Lib.hid hw6
          dsimp only [entV, vC] at HA12 HDW
          clear hdr hdr1 hrn hp2 hg1 hg2 hbW hbW1 q1 q2 q3 q4 g1 g2 g3 g4 hVl hrow hrn4 s4 c4 hv4 hs4 hx4 hsz1 hsl havl hbW2 hw5 hs5 hc5 hx5 hw6 hs6 hc6 hRl hns hrows4 hnv' hCl hfw hFc
          refine wp_region_text ⟨[9, 11, 12, 15], [0, 13, 14], 12⟩ (fun w' => ∃ x : X1, w' = fw x) (by kernel_rfl) (by kernel_rfl) (HFa.out _ HD1.out) ?_
          refine wpC_seg true (HFa.out _ HD1.out) 1 0 _ _ (by rfl) (by rfl) ?_
          simp only [List.take_succ_cons, List.take_zero, List.drop_succ_cons, List.drop_zero, if_true, Nat.zero_add, Nat.reduceAdd]
          repeat (go_big_quiet_step (fail))
          refine wpQuiet_nil ?_
          refine wpC_seg false (HFa.out _ HD1.out) 8 1 _ _ (by rfl) (by rfl) ?_
          simp only [List.take_succ_cons, List.take_zero, List.drop_succ_cons, List.drop_zero, Bool.false_eq_true, if_false, Nat.zero_add, Nat.reduceAdd]
          repeat (go_big_quiet_step (fail))
          refine wpQuiet_nil ?_
          refine wpC_value (by rfl) (by rfl) (exec_append rfl HA9.out) (fun _ => HFa.out _ HDW.out.1) ?_
          simp only [Act.put, List.setIfInBounds_toArray, List.set_cons_succ, List.set_cons_zero]
          refine wpC_seg false (HFa.out _ HDW.out.1) 1 10 _ _ (by rfl) (by rfl) ?_
          simp only [List.take_succ_cons, List.take_zero, List.drop_succ_cons, List.drop_zero, Bool.false_eq_true, if_false, Nat.zero_add, Nat.reduceAdd]
          repeat (go_big_quiet_step (fail))
          refine wpQuiet_nil ?_
          refine wpC_loud (by rfl) (by rfl) fun K hK => ?_
          go_wp2_with fail
          refine hK _ _ (fun _ => HFa.out _ HDW.out.2) ?_
          clear hK
          refine wpC_value (by rfl) (by rfl) (exec_append rfl HA12.out) (fun h => absurd h (by decide)) ?_
          simp only [Act.put, List.setIfInBounds_toArray, List.set_cons_succ, List.set_cons_zero]
          refine wpC_segD 2 13 _ _ (by rfl) (by rfl) ?_
          simp only [List.take_succ_cons, List.take_zero, List.drop_succ_cons, List.drop_zero, if_true, Nat.zero_add, Nat.reduceAdd]
          repeat (go_big_quiet_step (fail))
          refine wpQuiet_nil ?_
          refine wpC_loud (by rfl) (by rfl) fun K hK => ?_
          go_wp2_with fail
          refine hK _ _ (fun h => absurd h (by decide)) ?_
          clear hK
          refine wpC_nil ?_
          rw [← HW5.out]
          clear f1 f2 f3 f4 hX1 HFa fw X1
          go_wp2_with fail
          rw [← HW6.out]
          go_ret
          rw [HM.out]
          exact ⟨rfl, HE.out⟩
end Go.Proofs.YtbjpfnafhhbmaaaDoor.Sad

/- StreamSplits' walk. -/
namespace Go.Proofs.YtbjpfnafhhbmaaaDoor.Sad
open Go.Proofs.YtbjpfnafhhbmaaaDoor
set_option linter.unusedVariables false
set_option linter.unusedSimpArgs false
open Go.RowKit RT Go.Shelf
theorem take_big {E : List Ent} {L : List Ent} (hL : L.length ≤ E.length) (h : E.length ≤ 200) : L.take ((1099511627776 : Int)).toNat = L := List.take_of_length_le (by omega)
theorem filter0 (E : List Ent) : (E.filter fun e => !lessN e.1 (0, 0)) = E := List.filter_eq_self.2 fun e _ => by simp [lessN]
/-- What a range of a stream tells, at a world. -/
theorem range_upto {w : World} {s : Nat} {F : Nat → Prop} {E : List Ent} {l : Nat × Nat} (h : Stm w s F E l) (hn : E.length ≤ 200) (t : Nat × Nat) :
    Calls Tryd.prog 15 #[ptrV s, .agg #[.int .u64 0, .int .u64 0], .agg #[.int .u64 t.1, .int .u64 t.2], .int .i64 1099511627776] w fun e w' => ∃ v, e = .returned v ∧ EntsOut w' w.heap.size v (E.takeWhile fun e => !lessN t e.1) ∧ Below w.heap.size w w' := by
  have := stm_range h (by omega) (a := 0) (b := 0) (c := t.1) (d := t.2) (by omega) (by omega) (most := 1099511627776)
  rw [filter0, show ((t.1, t.2) : Nat × Nat) = t from rfl, take_big (E := E) (List.Sublist.length_le (List.takeWhile_sublist _)) hn] at this
  exact this
theorem range_from {w : World} {s : Nat} {F : Nat → Prop} {E : List Ent} {l : Nat × Nat} (h : Stm w s F E l) (hn : E.length ≤ 200) {t : Nat × Nat} (h1 : t.1 < 18446744073709551616) (h2 : t.2 < 18446744073709551616) :
    Calls Tryd.prog 15 #[ptrV s, .agg #[.int .u64 t.1, .int .u64 t.2], .agg #[.int .u64 18446744073709551615, .int .u64 18446744073709551615], .int .i64 1099511627776] w fun e w' => ∃ v, e = .returned v ∧ EntsOut w' w.heap.size v (E.filter fun e => !lessN e.1 t) ∧ Below w.heap.size w w' := by
  have := stm_range h (by omega) (a := t.1) (b := t.2) (c := topN.1) (d := topN.2) h1 h2 (most := 1099511627776)
  rw [show ((t.1, t.2) : Nat × Nat) = t from rfl, show ((topN.1, topN.2) : Nat × Nat) = topN from rfl, top_all (fun e he => h.lt64.2 e (List.mem_filter.1 he).1), take_big (E := E) (List.length_filter_le _ _) hn] at this
  exact this
theorem range_full {w : World} {s : Nat} {F : Nat → Prop} {E : List Ent} {l : Nat × Nat} (h : Stm w s F E l) (hn : E.length ≤ 200) :
    Calls Tryd.prog 15 #[ptrV s, .agg #[.int .u64 0, .int .u64 0], .agg #[.int .u64 18446744073709551615, .int .u64 18446744073709551615], .int .i64 1099511627776] w fun e w' => ∃ v, e = .returned v ∧ EntsOut w' w.heap.size v E ∧ Below w.heap.size w w' := by
  have := range_from h hn (t := (0, 0)) (by omega) (by omega)
  rw [filter0] at this
  exact this
/-- The two stretches, the first one cut where they meet, are all. -/
theorem cut_law {E : List Ent} (h : RisesE E) (t : Nat × Nat) : let L := E.takeWhile fun e => !lessN t e.1; let M := E.filter fun e => !lessN e.1 t;
    (∀ j e, L.length = j + 1 → L[j]? = some e → e.1 = t → M ≠ [] → L.take j ++ M = E) ∧ (L = [] → L ++ M = E) ∧ (M = [] → L ++ M = E) ∧ (∀ j e, L.length = j + 1 → L[j]? = some e → e.1 ≠ t → L ++ M = E) := by
  obtain ⟨A, B, rfl, hA, hB⟩ := split_rise h t
  have h1 := upto_split hA hB h
  have h2 := from_split hA hB
  simp only [h1, h2]
  cases B with
  | nil => simp
  | cons x B =>
    by_cases hx : x.1 = t
    · have hf : ((x :: B).take 1).filter (fun e => decide (e.1 = t)) = [x] := by simp [hx]
      rw [hf]
      refine ⟨fun j e hl he _ _ => ?_, fun hl => by simp at hl, fun hl => by simp at hl, fun j e hl he hne => ?_⟩
      · have : j = A.length := by simp at hl; omega
        rw [this, List.take_left']
        rfl
      · have : j = A.length := by simp at hl; omega
        subst this
        simp at he
        rw [← he] at hne
        exact absurd hx hne
    · have hf : ((x :: B).take 1).filter (fun e => decide (e.1 = t)) = [] := by simp [hx]
      rw [hf, List.append_nil]
      refine ⟨fun j e hl he het _ => ?_, fun _ => rfl, fun _ => rfl, fun _ _ _ _ _ => rfl⟩
      have hm := List.mem_of_getElem? he
      have := hA e hm
      rw [het, less_irrefl] at this
      cases this
set_option maxHeartbeats 6400000 in
set_option maxRecDepth 100000 in
theorem streamSplits_walk {w : World} (hl : Laid w) {a : Option Addr} {n c : Nat} {Q : List AskN} (h : AskRow w a n c Q) (hn : n ≤ 281474976710656) {t : Nat × Nat} (ht : t.1 < 18446744073709551616 ∧ t.2 < 18446744073709551616) :
    Calls Tryd.prog 5 #[.slice a n c, .agg #[.int .u64 t.1, .int .u64 t.2]] w fun e w' => e = .returned (.bool true) ∧ Below w.heap.size w w' := by
  obtain ⟨w1, hw1⟩ : ∃ w1, w1 = w.alloc (.cells #[.int .u64 t.1, .int .u64 t.2] 24) := ⟨_, rfl⟩
  have hb1 : Below w.heap.size w w1 := by rw [hw1]; exact (Below.refl _ _).alloc (Nat.le_refl _) _
  have hh1 : w1.heap[w.heap.size]? = some (.cells #[.int .u64 t.1, .int .u64 t.2] 24 (0, 0)) := by rw [hw1]; exact heap_new _ _
  have HP := Lib.hid (played_any (h.below hb1) hn)
  have HV := Lib.hid (fun w' (hb : Below w.heap.size w w') => lives_any (hl.below hb))
  have HW1 := Lib.hid hw1
  have HB1 := Lib.hid (And.intro hb1 hh1)
  have HLn := Lib.hid (playP_len Q 200)
  have HT := Lib.hid ht
  clear hl h hn hw1 hb1 hh1 ht
  go_enter Tryd.func5, Tryd.ntmps5
  go_wp2_with fail
  rw [← HW1.out]
  refine HP.out.mono ?_
  rintro e w2 ⟨s, F, rfl, hS, hF, b2⟩
  obtain ⟨E, hE⟩ : ∃ E, (playP Q 200).1 = E := ⟨_, rfl⟩
  obtain ⟨l, hl⟩ : ∃ l, (playP Q 200).2 = l := ⟨_, rfl⟩
  rw [hE, hl] at hS
  have hln := HLn.out
  rw [hE] at hln
  have hh2 := (b2.block _ (heap_lt HB1.out.2)).trans HB1.out.2
  have HS := Lib.hid (And.intro hS (And.intro hF (And.intro (HB1.out.1.trans (b2.mono HB1.out.1.size)) (And.intro hh2 hln))))
  have x0 := cell_in hh2 (i := 0) rfl
  have x1 := cell_in hh2 (i := 1) rfl
  have HR1 := Lib.hid (range_upto hS hln t)
  clear hS hF b2 hE hl hln hh2 HP HLn
  unfold ptrV at *
  go_wp2_with fail
  refine HR1.out.mono ?_
  rintro e w3 ⟨v1, rfl, o1, b3⟩
  obtain ⟨L, hL⟩ : ∃ L, (E.takeWhile fun e => !lessN t e.1) = L := ⟨_, rfl⟩
  rw [hL] at o1
  obtain ⟨a1, c1, rfl, _, _⟩ := o1.form
  have HO1 := Lib.hid (And.intro o1 (And.intro b3 hL))
  have hh3 := (b3.block _ (heap_lt HS.out.2.2.2.1)).trans HS.out.2.2.2.1
  have HC := Lib.hid (show ∀ w', Below w3.heap.size w3 w' → w'.cell? ⟨w.heap.size, 0, none⟩ = some (.int .u64 t.1) ∧ w'.cell? ⟨w.heap.size, 1, none⟩ = some (.int .u64 t.2) from fun w' hb => by
    have e1 := (hb.block _ (heap_lt hh3)).trans hh3
    exact ⟨cell_in e1 rfl, cell_in e1 rfl⟩)
  have HK := Lib.hid (fun w' (hb : Below w2.heap.size w2 w') => range_from (HS.out.1.below hb) HS.out.2.2.2.2 HT.out.1 HT.out.2)
  have HFl := Lib.hid (fun w' (hb : Below w2.heap.size w2 w') => range_full (HS.out.1.below hb) HS.out.2.2.2.2)
  unfold ptrV at HK HFl
  have c0 := HC.out w3.drew (belowN (Below.refl _ _) 1)
  obtain ⟨X1, f, hX1, hf, hF⟩ := classOf (fun w' => w'.cell? ⟨w.heap.size, 0, none⟩ = some (.int .u64 t.1) ∧ w'.cell? ⟨w.heap.size, 1, none⟩ = some (.int .u64 t.2)) (w := w3.drew) c0
  have f1 := fun x => (hf x).1
  have f2 := fun x => (hf x).2
  have HF1 := Lib.hid hF
  have HFa := Lib.hid (hF w3.drew c0)
  clear hF hf c0 o1 b3 hL hh3 x0 x1 HR1
  go_upto_region 3 with (fail)
  refine wp_region_text ⟨[2, 3], [4], 3⟩ (fun w' => ∃ x : X1, w' = f x) (by kernel_rfl) (by kernel_rfl) HFa.out ?_
  refine wpC_seg false (HFa.out) 2 0 _ _ (by rfl) (by rfl) ?_
  simp only [List.take_succ_cons, List.take_zero, List.drop_succ_cons, List.drop_zero, Bool.false_eq_true, if_false, Nat.zero_add, Nat.reduceAdd]
  repeat (go_big_quiet_step (fail))
  refine wpQuiet_nil ?_
  refine wpC_loud (by rfl) (by rfl) fun K hK => ?_
  go_wp2_with fail
  refine (top_any _).mono ?_
  rintro e w4 ⟨rfl, b4⟩
  have HB4 := Lib.hid ((belowN (Below.refl w3.heap.size w3) 1).trans b4)
  have HF2 := Lib.hid (HF1.out w4 (HC.out w4 HB4.out))
  refine hK _ _ (fun _ => HF2.out) ?_
  clear hK b4
  refine wpC_loud (by rfl) (by rfl) fun K hK => ?_
  go_wp2_with fail
  refine (HK.out w4 (HO1.out.2.1.trans (HB4.out.mono HO1.out.2.1.size))).mono ?_
  rintro e w5 ⟨v2, rfl, o2, b5⟩
  obtain ⟨M, hM⟩ : ∃ M, (E.filter fun e => !lessN e.1 t) = M := ⟨_, rfl⟩
  rw [hM] at o2
  obtain ⟨a2, c2, rfl, _, _⟩ := o2.form
  have HB5 := Lib.hid (HB4.out.trans (b5.mono HB4.out.size))
  have HO2 := Lib.hid (And.intro o2 (And.intro b5 hM))
  refine hK _ _ (fun h => absurd h (by decide)) ?_
  clear hK o2 b5 hM
  refine wpC_segD 1 4 _ _ (by rfl) (by rfl) ?_
  simp only [List.take_succ_cons, List.take_zero, List.drop_succ_cons, List.drop_zero, if_true, Nat.zero_add, Nat.reduceAdd]
  repeat (go_big_quiet_step (fail))
  refine wpQuiet_nil ?_
  refine wpC_nil ?_
  clear f1 f2 hX1 HF1 HFa HF2 f
  have hlaw := cut_law HS.out.1.rise t
  dsimp only at hlaw
  rw [HO1.out.2.2, HO2.out.2.2] at hlaw
  have HLaw := Lib.hid hlaw
  obtain ⟨m, hm⟩ : ∃ m, M.length = m := ⟨_, rfl⟩
  have HM := Lib.hid hm
  have hLlen : L.length ≤ 200 := by
    have h1 := HS.out.2.2.2.2
    have h2 : L.length ≤ E.length := by rw [← HO1.out.2.2]; exact List.Sublist.length_le (List.takeWhile_sublist _)
    omega
  have hb35 := HB5.out
  have o15 := HO1.out.1.below hb35
  have hc5 := HC.out w5.drew (belowN hb35 1)
  have hrow := (o15.below (belowN (Below.refl w5.heap.size w5) 1)).row
  obtain ⟨a1', c1', hv1, hrow⟩ := hrow
  simp only [Value.slice.injEq, true_and] at hv1
  obtain ⟨rfl, rfl⟩ := hv1
  have HRow := Lib.hid hrow
  have HO15 := Lib.hid o15
  have HC5 := Lib.hid hc5
  rw [hm]
  clear hlaw hb35 o15 hc5 hrow hm
  obtain ⟨k, hk⟩ : ∃ k, L.length = k := ⟨_, rfl⟩
  have HLk := Lib.hid hk
  rw [hk] at hLlen
  rw [hk]
  clear hk
  rcases Nat.eq_zero_or_pos k with hk0 | hk0
  · have e1 : decide ((0 : Int) < (k : Int)) = false := decide_eq_false (by omega)
    have e1' : decide (0 < k) = false := decide_eq_false (by omega)
    have HJ := Lib.hid (show ∃ LL, EntsOut (w5.drewN 1) w2.heap.size (.slice a1 k c1) LL ∧ LL ++ M = E ∧ LL.length ≤ 200 from ⟨L, by rw [← HLk.out]; exact HO15.out.below (belowN (Below.refl _ _) 1), HLaw.out.2.1 (List.eq_nil_of_length_eq_zero (by rw [HLk.out]; exact hk0)), by rw [HLk.out]; exact hLlen⟩)
    obtain ⟨j, rfl⟩ : ∃ j, k = j := ⟨_, rfl⟩
    clear hk0
    obtain ⟨X1, f, hX1, hf, hF⟩ := classOf (fun w' => w'.cell? ⟨w.heap.size, 0, none⟩ = some (.int .u64 t.1)) (w := w5.drew) HC5.out.1
    have HFa := Lib.hid (hF w5.drew HC5.out.1)
    clear hF hf
    go_upto_region 4 with (fail)
    refine wp_region_text ⟨[], [], 19⟩ (fun w' => ∃ x : X1, w' = f x) (by kernel_rfl) (by kernel_rfl) HFa.out ?_
    refine wpC_seg false (HFa.out) 19 0 _ _ (by rfl) (by rfl) ?_
    simp only [List.take_succ_cons, List.take_zero, List.drop_succ_cons, List.drop_zero, Bool.false_eq_true, if_false, Nat.zero_add, Nat.reduceAdd]
    repeat (go_big_quiet_step (fail))
    refine wpQuiet_nil ?_
    refine wpC_nil ?_
    clear HFa hX1 f
    go_upto_region 6 with (fail)
    obtain ⟨LL, oL, hLM, hLL⟩ := HJ.out
    obtain ⟨v3, w6, a3, c3, hr, rfl, hrow3, c56⟩ := oL.join (HO2.out.1.below (belowN (Below.refl w5.heap.size w5) 1)) (Nat.le_trans HO1.out.2.1.size (Nat.le_trans HB5.out.size (Nat.le_refl _))) (fun k hk => by
      have h1 := (HO1.out.1.vb (g := k) (by rw [HLk.out]; exact hk)).2.1
      have h2 := HB4.out.size
      omega) (by
      have h1 : M.length ≤ E.length := by rw [← hLM, List.length_append]; omega
      have h2 := HS.out.2.2.2.2
      omega)
    rw [hLM, HM.out] at hr
    rw [hLM] at hrow3
    have HA := Lib.hid hr
    have hb26 : Below w2.heap.size w2 w6 := belowChg (HO1.out.2.1.trans ((HB5.out.trans ((belowN (Below.refl w5.heap.size w5) 1).mono HB5.out.size)).mono HO1.out.2.1.size)) c56 (Nat.le_trans HO1.out.2.1.size HB5.out.size) (fun k hk _ => (HO1.out.1.vb (g := k) (by rw [HLk.out]; exact hk)).1)
    have HB6 := Lib.hid (And.intro hb26 hrow3)
    clear oL hLM hLL hr hrow3 c56 hb26 HJ
    go_wp2_with (at_builtin; refine wpList_append_run rfl rfl HA.out ?_)
    refine (top_any _).mono ?_
    rintro e w7 ⟨rfl, b7⟩
    have HB7 := Lib.hid b7
    clear b7
    go_wp2_with fail
    refine (HFl.out w7 (HB6.out.1.trans (HB7.out.mono HB6.out.1.size))).mono ?_
    rintro e w8 ⟨v4, rfl, o4, b8⟩
    have hb68 := HB7.out.trans (b8.mono HB7.out.size)
    obtain ⟨a4, c4, rfl, hrow4⟩ := o4.row
    have HSm := Lib.hid (sameEntries (HB6.out.2.chg hb68) hrow4 (by have := HS.out.2.2.2.2; omega))
    have HB8 := Lib.hid (HS.out.2.2.1.trans ((HB6.out.1.trans (hb68.mono HB6.out.1.size)).mono HS.out.2.2.1.size))
    clear hb68 hrow4 o4 b8
    go_wp2_with fail
    refine HSm.out.mono ?_
    rintro e w9 ⟨r, rfl, hr, b9⟩
    obtain rfl : r = true := by simpa using hr
    have HB9 := Lib.hid (HB8.out.trans (b9.mono HB8.out.size))
    clear hr b9
    go_wp2_with fail
    refine (HV.out w9 HB9.out).mono ?_
    rintro e w10 ⟨rfl, b10⟩
    have HB10 := Lib.hid (HB9.out.trans (b10.mono HB9.out.size))
    clear b10
    go_wp2_with fail
    go_ret
    exact ⟨rfl, HB10.out⟩
  · have e1 : decide ((0 : Int) < (k : Int)) = true := decide_eq_true (by omega)
    have e1' : decide (0 < k) = true := decide_eq_true (by omega)
    rcases Nat.eq_zero_or_pos m with hm0 | hm0
    · have e2 : decide ((0 : Int) < (m : Int)) = false := decide_eq_false (by omega)
      have e2' : decide (0 < m) = false := decide_eq_false (by omega)
      have HJ := Lib.hid (show ∃ LL, EntsOut (w5.drewN 1) w2.heap.size (.slice a1 k c1) LL ∧ LL ++ M = E ∧ LL.length ≤ 200 from ⟨L, by rw [← HLk.out]; exact HO15.out.below (belowN (Below.refl _ _) 1), HLaw.out.2.2.1 (List.eq_nil_of_length_eq_zero (by rw [HM.out]; exact hm0)), by rw [HLk.out]; exact hLlen⟩)
      obtain ⟨j, rfl⟩ : ∃ j, k = j := ⟨_, rfl⟩
      clear hk0 hm0
      obtain ⟨X1, f, hX1, hf, hF⟩ := classOf (fun w' => w'.cell? ⟨w.heap.size, 0, none⟩ = some (.int .u64 t.1)) (w := w5.drew) HC5.out.1
      have HFa := Lib.hid (hF w5.drew HC5.out.1)
      clear hF hf
      go_upto_region 4 with (fail)
      refine wp_region_text ⟨[], [], 19⟩ (fun w' => ∃ x : X1, w' = f x) (by kernel_rfl) (by kernel_rfl) HFa.out ?_
      refine wpC_seg false (HFa.out) 19 0 _ _ (by rfl) (by rfl) ?_
      simp only [List.take_succ_cons, List.take_zero, List.drop_succ_cons, List.drop_zero, Bool.false_eq_true, if_false, Nat.zero_add, Nat.reduceAdd]
      repeat (go_big_quiet_step (fail))
      refine wpQuiet_nil ?_
      refine wpC_nil ?_
      clear HFa hX1 f
      go_upto_region 6 with (fail)
      obtain ⟨LL, oL, hLM, hLL⟩ := HJ.out
      obtain ⟨v3, w6, a3, c3, hr, rfl, hrow3, c56⟩ := oL.join (HO2.out.1.below (belowN (Below.refl w5.heap.size w5) 1)) (Nat.le_trans HO1.out.2.1.size (Nat.le_trans HB5.out.size (Nat.le_refl _))) (fun k hk => by
        have h1 := (HO1.out.1.vb (g := k) (by rw [HLk.out]; exact hk)).2.1
        have h2 := HB4.out.size
        omega) (by
        have h1 : M.length ≤ E.length := by rw [← hLM, List.length_append]; omega
        have h2 := HS.out.2.2.2.2
        omega)
      rw [hLM, HM.out] at hr
      rw [hLM] at hrow3
      have HA := Lib.hid hr
      have hb26 : Below w2.heap.size w2 w6 := belowChg (HO1.out.2.1.trans ((HB5.out.trans ((belowN (Below.refl w5.heap.size w5) 1).mono HB5.out.size)).mono HO1.out.2.1.size)) c56 (Nat.le_trans HO1.out.2.1.size HB5.out.size) (fun k hk _ => (HO1.out.1.vb (g := k) (by rw [HLk.out]; exact hk)).1)
      have HB6 := Lib.hid (And.intro hb26 hrow3)
      clear oL hLM hLL hr hrow3 c56 hb26 HJ
      go_wp2_with (at_builtin; refine wpList_append_run rfl rfl HA.out ?_)
      refine (top_any _).mono ?_
      rintro e w7 ⟨rfl, b7⟩
      have HB7 := Lib.hid b7
      clear b7
      go_wp2_with fail
      refine (HFl.out w7 (HB6.out.1.trans (HB7.out.mono HB6.out.1.size))).mono ?_
      rintro e w8 ⟨v4, rfl, o4, b8⟩
      have hb68 := HB7.out.trans (b8.mono HB7.out.size)
      obtain ⟨a4, c4, rfl, hrow4⟩ := o4.row
      have HSm := Lib.hid (sameEntries (HB6.out.2.chg hb68) hrow4 (by have := HS.out.2.2.2.2; omega))
      have HB8 := Lib.hid (HS.out.2.2.1.trans ((HB6.out.1.trans (hb68.mono HB6.out.1.size)).mono HS.out.2.2.1.size))
      clear hb68 hrow4 o4 b8
      go_wp2_with fail
      refine HSm.out.mono ?_
      rintro e w9 ⟨r, rfl, hr, b9⟩
      obtain rfl : r = true := by simpa using hr
      have HB9 := Lib.hid (HB8.out.trans (b9.mono HB8.out.size))
      clear hr b9
      go_wp2_with fail
      refine (HV.out w9 HB9.out).mono ?_
      rintro e w10 ⟨rfl, b10⟩
      have HB10 := Lib.hid (HB9.out.trans (b10.mono HB9.out.size))
      clear b10
      go_wp2_with fail
      go_ret
      exact ⟨rfl, HB10.out⟩
    · have e2 : decide ((0 : Int) < (m : Int)) = true := decide_eq_true (by omega)
      have e2' : decide (0 < m) = true := decide_eq_true (by omega)
      obtain ⟨j, rfl⟩ : ∃ j, k = j + 1 := ⟨k - 1, by omega⟩
      obtain ⟨b, o, x, e, rfl, ⟨g0, g1, _⟩, he, hxi, _⟩ := HRow.out.get (i := j) (by rw [HLk.out]; omega)
      obtain ⟨xm, xq, xv⟩ := x
      dsimp only at g0 g1
      have hlt1 : j < L.length := by rw [HLk.out]; omega
      have e5 : IntKind.i64.wrap (((j + 1 : Nat) : Int) - 1) = (j : Int) := by rw [show (((j + 1 : Nat) : Int) - 1) = (j : Int) by omega]; exact IntWalk.i64_in _ (by omega)
      have e6 : IntKind.i64.wrap ((j : Int) + 1 - 1) = (j : Int) := by rw [show ((j : Int) + 1 - 1) = (j : Int) by omega]; exact IntWalk.i64_in _ (by omega)
      have e7 : (j : Int) < (j : Int) + 1 := by omega
      have hMne : M ≠ [] := fun e => by rw [e] at HM; have := HM.out; simp at this; omega
      have hcap : j + 1 ≤ c1 := by rw [← HLk.out]; assumption
      by_cases hid : xm = t.1 ∧ xq = t.2
      · have HJ := Lib.hid (show ∃ LL, EntsOut (w5.drewN 1) w2.heap.size (.slice (some ⟨b, o, none⟩) j c1) LL ∧ LL ++ M = E ∧ LL.length ≤ 200 from ⟨L.take j, by
          have := HO15.out.below (belowN (Below.refl w5.heap.size w5) 1)
          rw [HLk.out] at this
          exact this.take (by omega), HLaw.out.1 j e HLk.out he (by rw [← hxi]; exact Prod.ext hid.1 hid.2) hMne, by rw [List.length_take]; omega⟩)
        obtain ⟨rfl, rfl⟩ := hid
        clear hm0 hMne hxi he hk0
        obtain ⟨X1, f, hX1, hf, hF⟩ := classOf (fun w' => (w'.cell? ⟨w.heap.size, 0, none⟩ = some (.int .u64 t.1) ∧ w'.cell? ⟨w.heap.size, 1, none⟩ = some (.int .u64 t.2)) ∧ w'.cell? ⟨b, o + j * 3, none⟩ = some (.int .u64 t.1) ∧ w'.cell? ⟨b, o + j * 3 + 1, none⟩ = some (.int .u64 t.2)) (w := w5.drew) ⟨HC5.out, g0, g1⟩
        have f1 := fun x => (hf x).1.1
        have f2 := fun x => (hf x).1.2
        have f3 := fun x => (hf x).2.1
        have f4 := fun x => (hf x).2.2
        have HFa := Lib.hid (hF w5.drew ⟨HC5.out, g0, g1⟩)
        clear hF hf g0 g1
        go_upto_region 4 with (fail)
        refine wp_region_text ⟨[], [], 19⟩ (fun w' => ∃ x : X1, w' = f x) (by kernel_rfl) (by kernel_rfl) HFa.out ?_
        refine wpC_seg false (HFa.out) 19 0 _ _ (by rfl) (by rfl) ?_
        simp only [List.take_succ_cons, List.take_zero, List.drop_succ_cons, List.drop_zero, Bool.false_eq_true, if_false, Nat.zero_add, Nat.reduceAdd]
        repeat (go_big_quiet_step (fail))
        refine wpQuiet_nil ?_
        refine wpC_nil ?_
        clear f1 f2 f3 f4 HFa hX1 f
        go_upto_region 6 with (fail)
        obtain ⟨LL, oL, hLM, hLL⟩ := HJ.out
        obtain ⟨v3, w6, a3, c3, hr, rfl, hrow3, c56⟩ := oL.join (HO2.out.1.below (belowN (Below.refl w5.heap.size w5) 1)) (Nat.le_trans HO1.out.2.1.size (Nat.le_trans HB5.out.size (Nat.le_refl _))) (fun k hk => by
          have h1 := (HO1.out.1.vb (g := k) (by cases hk; rfl)).2.1
          have h2 := HB4.out.size
          omega) (by
          have h1 : M.length ≤ E.length := by rw [← hLM, List.length_append]; omega
          have h2 := HS.out.2.2.2.2
          omega)
        rw [hLM, HM.out] at hr
        rw [hLM] at hrow3
        have HA := Lib.hid hr
        have hb26 : Below w2.heap.size w2 w6 := belowChg (HO1.out.2.1.trans ((HB5.out.trans ((belowN (Below.refl w5.heap.size w5) 1).mono HB5.out.size)).mono HO1.out.2.1.size)) c56 (Nat.le_trans HO1.out.2.1.size HB5.out.size) (fun k hk _ => (HO1.out.1.vb (g := k) (by cases hk; rfl)).1)
        have HB6 := Lib.hid (And.intro hb26 hrow3)
        clear oL hLM hLL hr hrow3 c56 hb26 HJ
        go_wp2_with (at_builtin; refine wpList_append_run rfl rfl HA.out ?_)
        refine (top_any _).mono ?_
        rintro e w7 ⟨rfl, b7⟩
        have HB7 := Lib.hid b7
        clear b7
        go_wp2_with fail
        refine (HFl.out w7 (HB6.out.1.trans (HB7.out.mono HB6.out.1.size))).mono ?_
        rintro e w8 ⟨v4, rfl, o4, b8⟩
        have hb68 := HB7.out.trans (b8.mono HB7.out.size)
        obtain ⟨a4, c4, rfl, hrow4⟩ := o4.row
        have HSm := Lib.hid (sameEntries (HB6.out.2.chg hb68) hrow4 (by have := HS.out.2.2.2.2; omega))
        have HB8 := Lib.hid (HS.out.2.2.1.trans ((HB6.out.1.trans (hb68.mono HB6.out.1.size)).mono HS.out.2.2.1.size))
        clear hb68 hrow4 o4 b8
        go_wp2_with fail
        refine HSm.out.mono ?_
        rintro e w9 ⟨r, rfl, hr, b9⟩
        obtain rfl : r = true := by simpa using hr
        have HB9 := Lib.hid (HB8.out.trans (b9.mono HB8.out.size))
        clear hr b9
        go_wp2_with fail
        refine (HV.out w9 HB9.out).mono ?_
        rintro e w10 ⟨rfl, b10⟩
        have HB10 := Lib.hid (HB9.out.trans (b10.mono HB9.out.size))
        clear b10
        go_wp2_with fail
        go_ret
        exact ⟨rfl, HB10.out⟩
      · have HJ := Lib.hid (show ∃ LL, EntsOut (w5.drewN 1) w2.heap.size (.slice (some ⟨b, o, none⟩) (j + 1) c1) LL ∧ LL ++ M = E ∧ LL.length ≤ 200 from ⟨L, by
          have := HO15.out.below (belowN (Below.refl w5.heap.size w5) 1)
          rw [HLk.out] at this
          exact this, HLaw.out.2.2.2 j e HLk.out he (fun h => hid (by rw [← hxi] at h; exact ⟨congrArg Prod.fst h, congrArg Prod.snd h⟩)), by rw [HLk.out]; exact hLlen⟩)
        rcases Decidable.em (xm = t.1) with h1 | h1
        · have e9 : ((xq : Int) == (t.2 : Int)) = false := by rw [beq_eq_false_iff_ne]; intro h; exact hid ⟨h1, by omega⟩
          subst h1
          clear hm0 hMne hxi he hk0 hid
          obtain ⟨X1, f, hX1, hf, hF⟩ := classOf (fun w' => (w'.cell? ⟨w.heap.size, 0, none⟩ = some (.int .u64 t.1) ∧ w'.cell? ⟨w.heap.size, 1, none⟩ = some (.int .u64 t.2)) ∧ w'.cell? ⟨b, o + j * 3, none⟩ = some (.int .u64 t.1) ∧ w'.cell? ⟨b, o + j * 3 + 1, none⟩ = some (.int .u64 xq)) (w := w5.drew) ⟨HC5.out, g0, g1⟩
          have f1 := fun x => (hf x).1.1
          have f2 := fun x => (hf x).1.2
          have f3 := fun x => (hf x).2.1
          have f4 := fun x => (hf x).2.2
          have HFa := Lib.hid (hF w5.drew ⟨HC5.out, g0, g1⟩)
          clear hF hf g0 g1
          go_upto_region 4 with (fail)
          refine wp_region_text ⟨[], [], 19⟩ (fun w' => ∃ x : X1, w' = f x) (by kernel_rfl) (by kernel_rfl) HFa.out ?_
          refine wpC_seg false (HFa.out) 19 0 _ _ (by rfl) (by rfl) ?_
          simp only [List.take_succ_cons, List.take_zero, List.drop_succ_cons, List.drop_zero, Bool.false_eq_true, if_false, Nat.zero_add, Nat.reduceAdd]
          repeat (go_big_quiet_step (fail))
          refine wpQuiet_nil ?_
          refine wpC_nil ?_
          clear f1 f2 f3 f4 HFa hX1 f
          go_upto_region 6 with (fail)
          obtain ⟨LL, oL, hLM, hLL⟩ := HJ.out
          obtain ⟨v3, w6, a3, c3, hr, rfl, hrow3, c56⟩ := oL.join (HO2.out.1.below (belowN (Below.refl w5.heap.size w5) 1)) (Nat.le_trans HO1.out.2.1.size (Nat.le_trans HB5.out.size (Nat.le_refl _))) (fun k hk => by
            have h1 := (HO1.out.1.vb (g := k) (by rw [HLk.out]; exact hk)).2.1
            have h2 := HB4.out.size
            omega) (by
            have h1 : M.length ≤ E.length := by rw [← hLM, List.length_append]; omega
            have h2 := HS.out.2.2.2.2
            omega)
          rw [hLM, HM.out] at hr
          rw [hLM] at hrow3
          have HA := Lib.hid hr
          have hb26 : Below w2.heap.size w2 w6 := belowChg (HO1.out.2.1.trans ((HB5.out.trans ((belowN (Below.refl w5.heap.size w5) 1).mono HB5.out.size)).mono HO1.out.2.1.size)) c56 (Nat.le_trans HO1.out.2.1.size HB5.out.size) (fun k hk _ => (HO1.out.1.vb (g := k) (by rw [HLk.out]; exact hk)).1)
          have HB6 := Lib.hid (And.intro hb26 hrow3)
          clear oL hLM hLL hr hrow3 c56 hb26 HJ
          go_wp2_with (at_builtin; refine wpList_append_run rfl rfl HA.out ?_)
          refine (top_any _).mono ?_
          rintro e w7 ⟨rfl, b7⟩
          have HB7 := Lib.hid b7
          clear b7
          go_wp2_with fail
          refine (HFl.out w7 (HB6.out.1.trans (HB7.out.mono HB6.out.1.size))).mono ?_
          rintro e w8 ⟨v4, rfl, o4, b8⟩
          have hb68 := HB7.out.trans (b8.mono HB7.out.size)
          obtain ⟨a4, c4, rfl, hrow4⟩ := o4.row
          have HSm := Lib.hid (sameEntries (HB6.out.2.chg hb68) hrow4 (by have := HS.out.2.2.2.2; omega))
          have HB8 := Lib.hid (HS.out.2.2.1.trans ((HB6.out.1.trans (hb68.mono HB6.out.1.size)).mono HS.out.2.2.1.size))
          clear hb68 hrow4 o4 b8
          go_wp2_with fail
          refine HSm.out.mono ?_
          rintro e w9 ⟨r, rfl, hr, b9⟩
          obtain rfl : r = true := by simpa using hr
          have HB9 := Lib.hid (HB8.out.trans (b9.mono HB8.out.size))
          clear hr b9
          go_wp2_with fail
          refine (HV.out w9 HB9.out).mono ?_
          rintro e w10 ⟨rfl, b10⟩
          have HB10 := Lib.hid (HB9.out.trans (b10.mono HB9.out.size))
          clear b10
          go_wp2_with fail
          go_ret
          exact ⟨rfl, HB10.out⟩
        · have e8 : ((xm : Int) == (t.1 : Int)) = false := by rw [beq_eq_false_iff_ne]; intro h; exact h1 (by omega)
          clear hm0 hMne hxi he hk0 hid h1
          obtain ⟨X1, f, hX1, hf, hF⟩ := classOf (fun w' => (w'.cell? ⟨w.heap.size, 0, none⟩ = some (.int .u64 t.1) ∧ w'.cell? ⟨w.heap.size, 1, none⟩ = some (.int .u64 t.2)) ∧ w'.cell? ⟨b, o + j * 3, none⟩ = some (.int .u64 xm) ∧ w'.cell? ⟨b, o + j * 3 + 1, none⟩ = some (.int .u64 xq)) (w := w5.drew) ⟨HC5.out, g0, g1⟩
          have f1 := fun x => (hf x).1.1
          have f2 := fun x => (hf x).1.2
          have f3 := fun x => (hf x).2.1
          have f4 := fun x => (hf x).2.2
          have HFa := Lib.hid (hF w5.drew ⟨HC5.out, g0, g1⟩)
          clear hF hf g0 g1
          go_upto_region 4 with (fail)
          refine wp_region_text ⟨[], [], 19⟩ (fun w' => ∃ x : X1, w' = f x) (by kernel_rfl) (by kernel_rfl) HFa.out ?_
          refine wpC_seg false (HFa.out) 19 0 _ _ (by rfl) (by rfl) ?_
          simp only [List.take_succ_cons, List.take_zero, List.drop_succ_cons, List.drop_zero, Bool.false_eq_true, if_false, Nat.zero_add, Nat.reduceAdd]
          repeat (go_big_quiet_step (fail))
          refine wpQuiet_nil ?_
          refine wpC_nil ?_
          clear f1 f2 f3 f4 HFa hX1 f
          go_upto_region 6 with (fail)
          obtain ⟨LL, oL, hLM, hLL⟩ := HJ.out
          obtain ⟨v3, w6, a3, c3, hr, rfl, hrow3, c56⟩ := oL.join (HO2.out.1.below (belowN (Below.refl w5.heap.size w5) 1)) (Nat.le_trans HO1.out.2.1.size (Nat.le_trans HB5.out.size (Nat.le_refl _))) (fun k hk => by
            have h1 := (HO1.out.1.vb (g := k) (by rw [HLk.out]; exact hk)).2.1
            have h2 := HB4.out.size
            omega) (by
            have h1 : M.length ≤ E.length := by rw [← hLM, List.length_append]; omega
            have h2 := HS.out.2.2.2.2
            omega)
          rw [hLM, HM.out] at hr
          rw [hLM] at hrow3
          have HA := Lib.hid hr
          have hb26 : Below w2.heap.size w2 w6 := belowChg (HO1.out.2.1.trans ((HB5.out.trans ((belowN (Below.refl w5.heap.size w5) 1).mono HB5.out.size)).mono HO1.out.2.1.size)) c56 (Nat.le_trans HO1.out.2.1.size HB5.out.size) (fun k hk _ => (HO1.out.1.vb (g := k) (by rw [HLk.out]; exact hk)).1)
          have HB6 := Lib.hid (And.intro hb26 hrow3)
          clear oL hLM hLL hr hrow3 c56 hb26 HJ
          go_wp2_with (at_builtin; refine wpList_append_run rfl rfl HA.out ?_)
          refine (top_any _).mono ?_
          rintro e w7 ⟨rfl, b7⟩
          have HB7 := Lib.hid b7
          clear b7
          go_wp2_with fail
          refine (HFl.out w7 (HB6.out.1.trans (HB7.out.mono HB6.out.1.size))).mono ?_
          rintro e w8 ⟨v4, rfl, o4, b8⟩
          have hb68 := HB7.out.trans (b8.mono HB7.out.size)
          obtain ⟨a4, c4, rfl, hrow4⟩ := o4.row
          have HSm := Lib.hid (sameEntries (HB6.out.2.chg hb68) hrow4 (by have := HS.out.2.2.2.2; omega))
          have HB8 := Lib.hid (HS.out.2.2.1.trans ((HB6.out.1.trans (hb68.mono HB6.out.1.size)).mono HS.out.2.2.1.size))
          clear hb68 hrow4 o4 b8
          go_wp2_with fail
          refine HSm.out.mono ?_
          rintro e w9 ⟨r, rfl, hr, b9⟩
          obtain rfl : r = true := by simpa using hr
          have HB9 := Lib.hid (HB8.out.trans (b9.mono HB8.out.size))
          clear hr b9
          go_wp2_with fail
          refine (HV.out w9 HB9.out).mono ?_
          rintro e w10 ⟨rfl, b10⟩
          have HB10 := Lib.hid (HB9.out.trans (b10.mono HB9.out.size))
          clear b10
          go_wp2_with fail
          go_ret
          exact ⟨rfl, HB10.out⟩
end Go.Proofs.YtbjpfnafhhbmaaaDoor.Sad

/- StreamPlays: both sides, a stream and the document's. -/
namespace Go.Proofs.YtbjpfnafhhbmaaaDoor.Sad
open Go.Proofs.YtbjpfnafhhbmaaaDoor
set_option linter.unusedVariables false
set_option linter.unusedSimpArgs false
open Go.RowKit RT Go.Shelf
/-- A stream behind an ask of the law's asks. -/
def stepQ (st : List Ent × (Nat × Nat)) (A : AskN) : List Ent × (Nat × Nat) :=
  if A.k = 0 then addP st A
  else if A.k = 1 then st
  else if A.k = 2 then (st.1.filter fun e => !decide (e.1 = A.id), st.2)
  else if A.k = 3 then (st.1, if lessN A.id st.2 then st.2 else A.id)
  else if A.k = 4 then st
  else (st.1.drop (trimN st.1.length A.N), st.2)
def ansQ (st : List Ent × (Nat × Nat)) (A : AskN) : Ans :=
  ⟨if A.k = 0 then (if mayAdd st.2 A then 0 else 1) else (if lessN A.id st.2 then 1 else 0), (nextN st.2.1 st.2.2 A.N).1,
    if A.k = 1 then (nextN st.2.1 st.2.2 A.N).2 else st.1.any fun e => decide (e.1 = A.id), trimN st.1.length A.N, (st.1.filter fun e => inB A.id A.to e.1).take A.N.toNat⟩
theorem tw_filter (t : Nat × Nat) : ∀ {G : List Ent}, (G.Pairwise fun x y => lessN x.1 y.1 = true) → (G.takeWhile fun e => !lessN t e.1) = G.filter fun e => !lessN t e.1
  | [], _ => rfl
  | x :: G, h => by
    rw [List.pairwise_cons] at h
    rw [List.takeWhile_cons, List.filter_cons]
    by_cases hx : lessN t x.1 = true
    · rw [if_neg (by rw [hx]; decide), if_neg (by rw [hx]; decide), List.filter_eq_nil_iff.2]
      intro y hy
      rw [less_trans hx (h.1 y hy)]
      decide
    · have hx' : lessN t x.1 = false := by simpa using hx
      rw [if_pos (by rw [hx']; rfl), if_pos (by rw [hx']; rfl), tw_filter t h.2]
theorem range_in {E : List Ent} (h : E.Pairwise fun x y => lessN x.1 y.1 = true) (f t : Nat × Nat) : ((E.filter fun e => !lessN e.1 f).takeWhile fun e => !lessN t e.1) = E.filter fun e => inB f t e.1 := by
  rw [tw_filter t (h.sublist List.filter_sublist), List.filter_filter]
  congr 1
  funext e
  unfold inB
  rw [Bool.and_comm]
theorem stay_done {I : World → (Nat → Prop) → Prop} {w w' : World} {F : Nat → Prop} {a : Value} (h : I w' F) (hb : Below w.heap.size w w') : Done I F w a (.returned a) w' := ⟨rfl, F, h, fun k hk => .inl hk, Chg.of_below _ hb⟩
section
variable {E : List Ent} {l : Nat × Nat} {A : AskN} {s : Nat}
theorem side_stm (hn : E.length ≤ 400000) (hid : A.id.1 < 18446744073709551616 ∧ A.id.2 < 18446744073709551616) (hnb : -9223372036854775808 ≤ A.N ∧ A.N ≤ 9223372036854775807) (hnn : A.n ≤ 4000000000000) :
    SideS (ptrV s) (fun w F => Stm w s F E l) (fun w F => Stm w s F (stepQ (E, l) A).1 (stepQ (E, l) A).2) A (ansQ (E, l) A) where
  lt := fun w F h => h.lt
  lt' := fun w F h => h.lt
  chg := fun w w' F S h hc hs => h.chg hc hs
  chg' := fun w w' F S h hc hs => h.chg hc hs
  add := fun hk w F a c h hp => by
    have := stm_addAsk (A := { A with a := a, c := c }) h (by omega) hp hnn hid
    unfold ansQ stepQ
    rw [if_pos hk, if_pos hk]
    exact this
  next := fun hk w F h => by
    have := stm_next h hnb.1 hnb.2
    unfold ansQ stepQ
    rw [if_neg (by rw [hk]; decide), if_pos hk, if_pos hk]
    exact this.mono fun e w' ⟨he, hb⟩ => by rw [he]; exact stay_done (h.below hb) hb
  del := fun hk w F h => by
    have := stm_del h (by omega) hid.1 hid.2
    unfold ansQ stepQ
    rw [if_neg (show A.k ≠ 0 by rw [hk]; decide), if_neg (show A.k ≠ 1 by rw [hk]; decide), if_pos hk, if_neg (show A.k ≠ 1 by rw [hk]; decide)]
    exact this
  setLast := fun hk w F h => by
    have := stm_setLast h hid.1 hid.2
    unfold ansQ stepQ
    simp only [if_neg (show A.k ≠ 0 by rw [hk]; decide), if_neg (show A.k ≠ 1 by rw [hk]; decide), if_neg (show A.k ≠ 2 by rw [hk]; decide), if_pos hk]
    exact this.mono fun e w' ⟨he, hb, hc⟩ => ⟨he, F, hb, fun k hk => .inl hk, hc⟩
  range := fun hk w F h => by
    have := stm_range (c := A.to.1) (d := A.to.2) (most := A.N) h hn hid.1 hid.2
    have hr := h.rise
    unfold ansQ stepQ
    simp only [if_neg (show A.k ≠ 0 by rw [hk]; decide), if_neg (show A.k ≠ 1 by rw [hk]; decide), if_neg (show A.k ≠ 2 by rw [hk]; decide), if_neg (show A.k ≠ 3 by rw [hk]; decide), if_pos hk]
    refine this.mono fun e w' ⟨v, he, ho, hb⟩ => ?_
    rw [show ((A.id.1, A.id.2) : Nat × Nat) = A.id from rfl, show ((A.to.1, A.to.2) : Nat × Nat) = A.to from rfl, range_in hr] at ho
    obtain ⟨a, c, rfl, hrow⟩ := ho.row
    exact ⟨a, c, he, hrow, h.below hb, hb⟩
  trim := fun k0 k1 k2 k3 k4 w F h => by
    have := stm_trim h hn hnb.1 hnb.2
    unfold ansQ stepQ
    simp only [if_neg k0, if_neg k1, if_neg k2, if_neg k3, if_neg k4]
    exact this
  few := by
    show ((E.filter fun e => inB A.id A.to e.1).take A.N.toNat).length ≤ _
    have h1 := List.length_take_le' A.N.toNat (E.filter fun e => inB A.id A.to e.1)
    have h2 := List.length_filter_le (fun e : Ent => inB A.id A.to e.1) E
    omega
theorem side_ref (hn : E.length ≤ 400000) (hid : A.id.1 < 18446744073709551616 ∧ A.id.2 < 18446744073709551616) (hnb : -9223372036854775808 ≤ A.N ∧ A.N ≤ 9223372036854775807) (hnn : A.n ≤ 4000000) :
    SideX (ptrV s) (RefS s E l) (RefS s (stepQ (E, l) A).1 (stepQ (E, l) A).2) A (ansQ (E, l) A) where
  lt := fun w F h => h.lt
  lt' := fun w F h => h.lt
  chg := fun w w' F S h hc hs => h.chg hc hs
  chg' := fun w w' F S h hc hs => h.chg hc hs
  add := fun hk w F a c h hp => by
    have := refS_add h hn hid.1 hid.2 hp hnn
    unfold ansQ stepQ
    rw [if_pos hk, if_pos hk]
    refine this.mono fun e w' ⟨he, F', h1, h2, h3⟩ => ⟨he, F', ?_, h2, h3⟩
    have hm : mayB l (A.id.1, A.id.2) A.n A.L = mayAdd l A := rfl
    rw [hm] at h1
    unfold addP
    dsimp only
    cases hy : mayAdd l A
    · rw [hy] at h1; simpa using h1
    · rw [hy] at h1; simpa using h1
  next := fun hk w F h => by
    obtain ⟨v, R, Vs, hO, hF⟩ := h
    have := refO_next hO hnb.1 hnb.2
    have h : RefS s E l w F := ⟨v, R, Vs, hO, hF⟩
    unfold ansQ stepQ
    rw [if_neg (by rw [hk]; decide), if_pos hk, if_pos hk]
    exact this.mono fun e w' ⟨he, hb⟩ => by rw [he]; exact stay_done (h.below hb) hb
  del := fun hk w F h => by
    have := refS_del h hn A.id.1 A.id.2
    unfold ansQ stepQ
    rw [if_neg (show A.k ≠ 0 by rw [hk]; decide), if_neg (show A.k ≠ 1 by rw [hk]; decide), if_pos hk, if_neg (show A.k ≠ 1 by rw [hk]; decide)]
    exact this
  setLast := fun hk w F h => by
    have := refS_setLast h hid.1 hid.2
    unfold ansQ stepQ
    simp only [if_neg (show A.k ≠ 0 by rw [hk]; decide), if_neg (show A.k ≠ 1 by rw [hk]; decide), if_neg (show A.k ≠ 2 by rw [hk]; decide), if_pos hk]
    exact this.mono fun e w' ⟨he, hb, hc⟩ => ⟨he, F, hb, fun k hk => .inl hk, hc⟩
  range := fun hk w F h => by
    have := refS_range (a := A.id.1) (b := A.id.2) (c := A.to.1) (d := A.to.2) h hn hnb.1 hnb.2
    unfold ansQ stepQ
    simp only [if_neg (show A.k ≠ 0 by rw [hk]; decide), if_neg (show A.k ≠ 1 by rw [hk]; decide), if_neg (show A.k ≠ 2 by rw [hk]; decide), if_neg (show A.k ≠ 3 by rw [hk]; decide), if_pos hk]
    refine this.mono fun e w' ⟨G, hG, a, c, he, hr, hb⟩ => ?_
    subst hG
    exact ⟨a, c, he, hr, h.below hb, hb⟩
  trim := fun k0 k1 k2 k3 k4 w F h => by
    have := refS_trim h hn hnb.1 hnb.2
    unfold ansQ stepQ
    simp only [if_neg k0, if_neg k1, if_neg k2, if_neg k3, if_neg k4]
    exact this
  few := by
    show ((E.filter fun e => inB A.id A.to e.1).take A.N.toNat).length ≤ _
    have h1 := List.length_take_le' A.N.toNat (E.filter fun e => inB A.id A.to e.1)
    have h2 := List.length_filter_le (fun e : Ent => inB A.id A.to e.1) E
    omega
end
end Go.Proofs.YtbjpfnafhhbmaaaDoor.Sad

/- StreamPlays' walk and its row form. -/
namespace Go.Proofs.YtbjpfnafhhbmaaaDoor.Sad
open Go.Proofs.YtbjpfnafhhbmaaaDoor
set_option linter.unusedVariables false
set_option linter.unusedSimpArgs false
open Go.RowKit RT Go.Shelf
def costM : Nat := 1099528405024
theorem pairsCost_max : ∀ {L : List PairT} {m : Nat}, (∀ p ∈ L, p.1.size + p.2.size ≤ m) → pairsCost L ≤ L.length * (16 + m)
  | [], m, _ => by simp [pairsCost]
  | p :: L, m, h => by
    have h1 := pairsCost_max (L := L) (m := m) fun q hq => h q (by simp [hq])
    have h2 := h p (by simp)
    have h3 : pairsCost (p :: L) = pairsCost [p] + pairsCost L := pairsCost_cat [p] L
    have h4 : pairsCost [p] = 16 + p.1.size + p.2.size := by simp [pairsCost]
    rw [h3, h4, List.length_cons, Nat.add_mul, Nat.one_mul]
    omega
theorem costE_le {M : Nat} : ∀ {E : List Ent}, (∀ e ∈ E, 32 + pairsCost e.2 ≤ M) → costE E ≤ E.length * M
  | [], _ => by simp [costE]
  | e :: E, h => by
    have h1 := costE_le (E := E) fun q hq => h q (by simp [hq])
    have h2 := h e (by simp)
    have h3 : costE (e :: E) = costE [e] + costE E := costE_append [e] E
    have h4 : costE [e] = 32 + pairsCost e.2 := by simp [costE]
    rw [h3, h4, List.length_cons, Nat.add_mul, Nat.one_mul]
    omega
def playQ (Q : List AskN) (k : Nat) : List Ent × (Nat × Nat) := (Q.take k).foldl stepQ ([], (0, 0))
theorem playQ_succ {Q : List AskN} {k : Nat} {A : AskN} (h : Q[k]? = some A) : playQ Q (k + 1) = stepQ (playQ Q k) A := by
  obtain ⟨hk, rfl⟩ := List.getElem?_eq_some_iff.1 h
  unfold playQ
  rw [List.take_succ_eq_append_getElem hk, List.foldl_append]
  rfl
/-- What is known of the entries. -/
structure FewE (E : List Ent) (k : Nat) : Prop where
  len : E.length ≤ k
  cost : ∀ e ∈ E, 32 + pairsCost e.2 ≤ costM
theorem FewE.sub {E E' : List Ent} {k : Nat} (h : FewE E k) (hs : E'.Sublist E) : FewE E' (k + 1) := ⟨Nat.le_succ_of_le (Nat.le_trans hs.length_le h.len), fun e he => h.cost e (hs.subset he)⟩
theorem few_step {E : List Ent} {l : Nat × Nat} {k : Nat} {A : AskN} (h : FewE E k) (hA : 32 + pairsCost A.L ≤ costM) : FewE (stepQ (E, l) A).1 (k + 1) := by
  unfold stepQ
  split
  · unfold addP
    split
    · refine ⟨by simp; exact h.len, fun e he => ?_⟩
      rcases List.mem_append.1 he with he | he
      · exact h.cost e he
      · simp at he; rw [he]; exact hA
    · exact h.sub (List.Sublist.refl _)
  · split
    · exact h.sub (List.Sublist.refl _)
    · split
      · exact h.sub List.filter_sublist
      · split
        · exact h.sub (List.Sublist.refl _)
        · split
          · exact h.sub (List.Sublist.refl _)
          · exact h.sub (List.drop_sublist _ _)
theorem FewE.total {E : List Ent} {k : Nat} (h : FewE E k) (hk : k ≤ 200) : costE E ≤ 281474976710656 := by
  have h1 := costE_le h.cost
  have h2 : E.length * costM ≤ 200 * costM := Nat.mul_le_mul_right _ (Nat.le_trans h.len hk)
  have h3 : 200 * costM ≤ 281474976710656 := by decide
  omega
theorem said_stm {E : List Ent} {l : Nat × Nat} {s k : Nat} (h : FewE E k) (hk : k ≤ 200) : SaidS (ptrV s) (fun w => ∃ F, Stm w s F E l) E.length l (costE E : Nat) E where
  below := fun w w' ⟨F, h⟩ hb => ⟨F, h.below hb⟩
  len := fun w ⟨F, hS⟩ => (stm_len hS).mono fun e w' ⟨he, hw⟩ => ⟨he, by rw [hw]; exact Below.refl _ _⟩
  last := fun w ⟨F, hS⟩ => stm_last hS
  charge := fun w ⟨F, hS⟩ => stm_charge hS (by have := h.len; omega) h.cost (by
    have h2 : E.length * costM ≤ 200 * costM := Nat.mul_le_mul_right _ (Nat.le_trans h.len hk)
    have h3 : 200 * costM ≤ 281474976710656 := by decide
    omega)
  range := fun w ⟨F, hS⟩ => (range_full hS (Nat.le_trans h.len hk)).mono fun e w' ⟨v, he, ho, hb⟩ => by
    obtain ⟨a, c, rfl, hr⟩ := ho.row
    exact ⟨a, c, he, hr, hb⟩
theorem in_all {E : List Ent} (h : ∀ e ∈ E, e.1.1 < 18446744073709551616 ∧ e.1.2 < 18446744073709551616) : (E.filter fun e => inB (0, 0) (18446744073709551615, 18446744073709551615) e.1) = E := by
  rw [List.filter_eq_self]
  intro e he
  have := h e he
  unfold inB lessN
  simp
  omega
theorem said_ref {E : List Ent} {l : Nat × Nat} {s k : Nat} (h : FewE E k) (hk : k ≤ 200) (h64 : ∀ e ∈ E, e.1.1 < 18446744073709551616 ∧ e.1.2 < 18446744073709551616) : SaidX (ptrV s) (fun w => ∃ F, RefS s E l w F) E.length l (costE E : Nat) E where
  below := fun w w' ⟨F, h⟩ hb => ⟨F, h.below hb⟩
  len := fun w ⟨F, hS⟩ => (refS_len hS).mono fun e w' ⟨he, hw⟩ => ⟨he, by rw [hw]; exact Below.refl _ _⟩
  last := fun w ⟨F, hS⟩ => refS_last hS
  charge := fun w ⟨F, hS⟩ => refS_charge hS (by have := h.len; omega) (h.total hk)
  range := fun w ⟨F, hS⟩ => (refS_range (most := 1099511627776) hS (by have := h.len; omega) (by decide) (by decide)).mono fun e w' ⟨G, hG, a, c, he, hr, hb⟩ => by
    rw [in_all h64, List.take_of_length_le (by have := h.len; have e1 : (1099511627776 : Int).toNat = 1099511627776 := rfl; omega)] at hG
    subst hG
    exact ⟨a, c, he, hr, hb⟩
set_option maxHeartbeats 6400000 in
set_option maxRecDepth 100000 in
theorem streamPlays_walk {w : World} (hl : Laid w) {a : Option Addr} {n c : Nat} {Q : List AskN} (h : AskRow w a n c Q) (hn : n ≤ 281474976710656) (hq : ∀ A ∈ Q, 32 + pairsCost A.L ≤ costM) :
    Calls Tryd.prog 6 #[.slice a n c] w fun e w' => e = .returned (.bool true) ∧ Below w.heap.size w w' := by
  have HV := Lib.hid (fun w' (hb : Below w.heap.size w w') => lives_any (hl.below hb))
  have HR := Lib.hid (And.intro h hq)
  clear hl h hq
  go_enter Tryd.func6, Tryd.ntmps6
  go_wp2_with fail
  refine (stm_new _).mono ?_
  rintro e w1 ⟨s, F, rfl, h1, h2, h3⟩
  have H1 := Lib.hid (And.intro h1 (And.intro h2 h3))
  clear h1 h2 h3
  unfold ptrV
  go_wp2_with fail
  refine (refS_new _).mono ?_
  rintro e w2 ⟨x, G, rfl, g1, g2, g3⟩
  have HI0 := Lib.hid (show ∃ F G, Both (fun w F => Stm w s F (playQ Q 0).1 (playQ Q 0).2) (RefS x (playQ Q 0).1 (playQ Q 0).2) F G w2 ∧ FewE (playQ Q 0).1 0 ∧ (∀ k, F k ∨ G k → w.heap.size ≤ k) ∧ Below w.heap.size w w2 from by
    refine ⟨F, G, ⟨H1.out.1.below g2, g1, fun k hk hk' => ?_⟩, ⟨Nat.le_refl _, by simp [playQ]⟩, fun k hk => ?_, H1.out.2.1.trans (g2.mono H1.out.2.1.size)⟩
    · have := H1.out.1.lt k hk
      have := g3 k hk'
      omega
    · rcases hk with hk | hk
      · exact H1.out.2.2 k hk
      · exact Nat.le_trans H1.out.2.1.size (g3 k hk))
  clear g1 g2 g3 H1
  unfold ptrV
  go_wp2_with fail
  go_loopw [5] (fun i wr => ∃ k : Nat, (k ≤ n ∧ k ≤ 200) ∧ i = .int .i64 k ∧ Hid (∃ F G, Both (fun w F => Stm w s F (playQ Q k).1 (playQ Q k).2) (RefS x (playQ Q k).1 (playQ Q k).2) F G wr ∧ FewE (playQ Q k).1 k ∧ (∀ k, F k ∨ G k → w.heap.size ≤ k) ∧ Below w.heap.size w wr)) (fun i _ => n - (intOf i).toNat)
  case atStart => exact ⟨0, ⟨Nat.zero_le _, Nat.zero_le _⟩, rfl, HI0⟩
  case round =>
    obtain ⟨k, ⟨hk, hk2⟩, rfl, hI⟩ := hrel
    obtain ⟨F, G, hB, hfew, hFG, hbb⟩ := hI.out
    have hst : ∀ (k : Nat) (F G : Nat → Prop) (w' : World), k ≤ 200 → FewE (playQ Q k).1 k → Both (fun w F => Stm w s F (playQ Q k).1 (playQ Q k).2) (RefS x (playQ Q k).1 (playQ Q k).2) F G w' → Calls Tryd.prog 21 #[ptrV s, ptrV x] w' fun e w'' => e = .returned (.bool true) ∧ Below w'.heap.size w' w'' := fun k F G w' hk200 hf hB =>
      stands_any (said_stm hf hk200) (said_ref hf hk200 hB.1.lt64.2) (by have := hf.len; omega) ⟨F, hB.1⟩ ⟨G, hB.2.1⟩
    unfold ptrV at hst
    have HSt := Lib.hid hst
    clear hst
    by_cases hlt : k < n ∧ k < 200
    · obtain ⟨hlt, hlt2⟩ := hlt
      obtain ⟨b, o, A, rfl, hA, hQ⟩ := HR.out.1.get hlt
      have hAr := hA.below hbb
      have c0 := hAr.c0
      have c1 := hAr.c1
      have c2 := hAr.c2
      have c3 := hAr.c3
      have c4 := hAr.c4
      have c5 := hAr.c5
      have c6 := hAr.c6
      have hAQ : A ∈ Q := List.mem_of_getElem? hQ
      have hCk : ∀ w', Chg (fun j => F j ∨ G j) wr w' → Below w.heap.size w w' := fun w' hc => belowChg hbb hc hbb.size fun j hj _ => hFG j hj
      have hlen := hfew.len
      have hC := asks_any (side_stm (E := (playQ Q k).1) (l := (playQ Q k).2) (s := s) (by omega) hA.idb hA.nb (Nat.le_trans hA.nle (by decide))) (side_ref (E := (playQ Q k).1) (l := (playQ Q k).2) (s := x) (by omega) hA.idb hA.nb (Nat.le_trans hA.nle (by decide))) hB (fun w' hc => hA.row.below (hCk w' hc)) (Nat.le_trans hA.nle (by decide))
      unfold ptrV at hC
      have HC := Lib.hid hC
      have HS := Lib.hid (And.intro (playQ_succ hQ) (few_step (l := (playQ Q k).2) hfew (HR.out.2 A hAQ)))
      have HFG := Lib.hid (And.intro hFG (And.intro hCk hbb.size))
      have j1 : (k : Int) < (n : Int) := by omega
      have j2 : decide ((k : Int) < 200) = true := decide_eq_true (by omega)
      have HK := Lib.hid (And.intro hlt hlt2)
      clear hAr hA hQ hAQ hCk hlen hC hB hfew hFG hbb hI
      go_wp2_with fail
      refine HC.out.mono ?_
      rintro e w3 ⟨rfl, F', G', hB3, hf3, hg3, hc3⟩
      have hN : Both (fun w F => Stm w s F (playQ Q (k + 1)).1 (playQ Q (k + 1)).2) (RefS x (playQ Q (k + 1)).1 (playQ Q (k + 1)).2) F' G' w3 := by rw [HS.out.1]; exact hB3
      have hfw : FewE (playQ Q (k + 1)).1 (k + 1) := by rw [HS.out.1]; exact HS.out.2
      have HN := Lib.hid (show Both (fun w F => Stm w s F (playQ Q (k + 1)).1 (playQ Q (k + 1)).2) (RefS x (playQ Q (k + 1)).1 (playQ Q (k + 1)).2) F' G' w3 ∧ FewE (playQ Q (k + 1)).1 (k + 1) ∧ (∀ k, F' k ∨ G' k → w.heap.size ≤ k) ∧ Below w.heap.size w w3 from by
        refine ⟨hN, hfw, fun j hj => ?_, HFG.out.2.1 w3 hc3⟩
        rcases hj with hj | hj
        · rcases hf3 j hj with h' | h'
          · exact HFG.out.1 j (.inl h')
          · exact Nat.le_trans HFG.out.2.2 h'
        · rcases hg3 j hj with h' | h'
          · exact HFG.out.1 j (.inr h')
          · exact Nat.le_trans HFG.out.2.2 h')
      have HT := Lib.hid (HSt.out (k + 1) F' G' w3 (by omega) hfw hN)
      clear hB3 hf3 hg3 hc3 hN hfw HSt HC c0 c1 c2 c3 c4 c5 c6
      go_wp2_with fail
      refine HT.out.mono ?_
      rintro e w4 ⟨rfl, b4⟩
      have HN2 := Lib.hid (show ∃ F G, Both (fun w F => Stm w s F (playQ Q (k + 1)).1 (playQ Q (k + 1)).2) (RefS x (playQ Q (k + 1)).1 (playQ Q (k + 1)).2) F G w4 ∧ FewE (playQ Q (k + 1)).1 (k + 1) ∧ (∀ k, F k ∨ G k → w.heap.size ≤ k) ∧ Below w.heap.size w w4 from
        ⟨F', G', ⟨HN.out.1.1.below b4, HN.out.1.2.1.below b4, HN.out.1.2.2⟩, HN.out.2.1, HN.out.2.2.1, HN.out.2.2.2.trans (b4.mono HN.out.2.2.2.size)⟩)
      clear b4 HT
      go_wp2_with fail
      go_roundw
      case rel => exact ⟨k + 1, ⟨by omega, by omega⟩, by go_num, HN2⟩
      case measure => simp [intOf]; omega
    · have HT := Lib.hid (HSt.out k F G wr hk2 hfew hB)
      have HBB := Lib.hid hbb
      clear hB hfew hFG hbb hI HSt
      rcases Nat.lt_or_ge k n with hkn | hkn
      · obtain rfl : k = 200 := by omega
        have j1 : ((200 : Nat) : Int) < (n : Int) := by omega
        go_wp2_with fail
        refine HT.out.mono ?_
        rintro e w3 ⟨rfl, b3⟩
        have HB3 := Lib.hid (HBB.out.trans (b3.mono HBB.out.size))
        clear b3
        go_wp2_with fail
        refine (HV.out _ HB3.out).mono ?_
        rintro e w4 ⟨rfl, b4⟩
        have HB4 := Lib.hid (HB3.out.trans (b4.mono HB3.out.size))
        clear b4
        go_wp2_with fail
        go_ret
        exact ⟨rfl, HB4.out⟩
      · obtain rfl : n = k := by omega
        go_wp2_with fail
        refine HT.out.mono ?_
        rintro e w3 ⟨rfl, b3⟩
        have HB3 := Lib.hid (HBB.out.trans (b3.mono HBB.out.size))
        clear b3
        go_wp2_with fail
        refine (HV.out _ HB3.out).mono ?_
        rintro e w4 ⟨rfl, b4⟩
        have HB4 := Lib.hid (HB3.out.trans (b4.mono HB3.out.size))
        clear b4
        go_wp2_with fail
        go_ret
        exact ⟨rfl, HB4.out⟩
end Go.Proofs.YtbjpfnafhhbmaaaDoor.Sad
namespace Go.Proofs.YtbjpfnafhhbmaaaDoor
set_option linter.unusedVariables false
open Go.RowKit Sad
theorem askRow_mem {w : World} {a : Option Addr} {n c : Nat} {Q : List AskN} (h : AskRow w a n c Q) {A : AskN} (hA : A ∈ Q) : ∃ b o, AskAt w b o A := by
  obtain ⟨i, hi, rfl⟩ := List.getElem_of_mem hA
  obtain ⟨b, o, e, hc⟩ := h.2.2.resolve_left (by have := h.1; omega)
  exact ⟨b, _, hc i hi⟩
theorem streamPlays_walk {w : World} (hl : Laid w) (a : Option Addr) (n c : Nat) (Q : List AskN) (h : AskRow w a n c Q) (hn : n ≤ 1048576) (hq : ∀ A ∈ Q, ∀ p ∈ A.L, p.1.size + p.2.size ≤ 1048576) :
    Calls Tryd.prog 6 #[.slice a n c] w fun e w' => e = .returned (.bool true) ∧ Below w.heap.size w w' := by
  refine Sad.streamPlays_walk hl h (by omega) fun A hA => ?_
  obtain ⟨b, o, hat⟩ := askRow_mem h hA
  have h1 := pairsCost_max (hq A hA)
  have h2 : A.L.length ≤ 1048576 := by rw [hat.row.1]; exact hat.nle
  have h3 : A.L.length * (16 + 1048576) ≤ 1048576 * (16 + 1048576) := Nat.mul_le_mul_right _ h2
  unfold costM
  omega
end Go.Proofs.YtbjpfnafhhbmaaaDoor

/- what a row's list of variables gives (door seats): Laid; and a world that meets it. -/
namespace Go.Proofs.YtbjpfnafhhbmaaaDoor
set_option linter.unusedVariables false
set_option linter.unusedSimpArgs false
open Go.RowKit
namespace Lay
theorem star : "*" ++ "errors.errorString" = "*errors.errorString" := by decide
theorem rowErr (u : TypeId) (h : Tryd.prog.typeName? 3 u = some "*errors.errorString") : u = 140 :=
  typeName_ptr_named (nm := "errors.errorString") (by rw [star]; kernel_rfl) (by kernel_rfl) (by decide) u (by rw [star]; exact h)
theorem laid_of {W : World} (h : laidMetH Tryd.prog Rows.streamSpellsRow.laid W) (hs : W.ShapedOpen Tryd.prog) : Laid W := by
  have h0 : laidMet Tryd.prog Rows.streamSpellsRow.laid W := h
  have h3 : laidMet Tryd.prog [("internal/strconv.uint64pow10", Rows.laid_internal_strconv_uint64pow10), ("strconv.ErrRange", Rows.laid_strconv_ErrRange), ("strconv.ErrSyntax", Rows.laid_strconv_ErrSyntax)] W := h0.tail.tail
  refine ⟨Lib.tabIs_of_head (n := 20) (g := 1) (by kernel_rfl) (by kernel_rfl) Tryd.underlying128 Tryd.underlying22 (by kernel_rfl) (by kernel_rfl) h3, ?_, ?_, Tryd.laysM145.s1_3 W hs⟩
  · obtain ⟨a, _, hv, _⟩ := laid_sentinel (g := 2) h3.tail.tail (by kernel_rfl) (by kernel_rfl) Tryd.underlying84 rowErr Tryd.underlying140 Tryd.underlying142 rfl rfl Tryd.underlying9 (by kernel_rfl) (by kernel_rfl)
    exact ⟨_, _, hv⟩
  · obtain ⟨a, _, hv, _⟩ := laid_sentinel (g := 3) h3.tail (by kernel_rfl) (by kernel_rfl) Tryd.underlying84 rowErr Tryd.underlying140 Tryd.underlying142 rfl rfl Tryd.underlying9 (by kernel_rfl) (by kernel_rfl)
    exact ⟨_, _, hv⟩
/-- So many blocks has the settled world. -/
noncomputable def low : Nat := (World.holding Tryd.prog default ⟨#[], #[], []⟩).heap.size
abbrev synS : ByteArray := { data := #[105, 110, 118, 97, 108, 105, 100, 32, 115, 121, 110, 116, 97, 120] }
abbrev rngS : ByteArray := { data := #[118, 97, 108, 117, 101, 32, 111, 117, 116, 32, 111, 102, 32, 114, 97, 110, 103, 101] }
def lits : List (DataW Unit) → Array Value
  | [] => #[]
  | .lit (.int k n) :: l => #[.int k n] ++ lits l
  | _ :: l => lits l
def table : DataW Unit → Array Value
  | .agg l => lits l
  | _ => #[]
def into (cs : Array Value) : Obj → Obj
  | .cells _ t frozen => .cells cs t frozen
  | o => o
noncomputable def laidWorld (os : Os) : World :=
  let w0 := World.holding Tryd.prog os ⟨#[.cells #[.string synS] 142, .cells #[.string rngS] 142], #[], []⟩
  { w0 with heap := ((((w0.heap.modify 1 (into (table Rows.laid_internal_strconv_uint64pow10))).modify 4 (into (table Rows.laid_math_bits_deBruijn32tab))).modify 5 (into (table Rows.laid_math_bits_deBruijn64tab))).modify 2 (into #[.iface 140 (.pointer (some ⟨low, 0, none⟩))])).modify 3 (into #[.iface 140 (.pointer (some ⟨low + 1, 0, none⟩))]) }
theorem laid_met (os : Os) (args : Array Value) : laidMet Tryd.prog Rows.streamSpellsRow.laid ((laidWorld os).forCall (fun _ _ => 0) ⟨#[], args, []⟩).memory :=
  laidMet_of_run' 8 (by kernel_rfl) (by kernel_rfl)
end Lay
end Go.Proofs.YtbjpfnafhhbmaaaDoor

/- opening a slice of asks that came in. -/
namespace Go.Proofs.YtbjpfnafhhbmaaaDoor
set_option linter.unusedVariables false
set_option linter.unusedSimpArgs false
open Go.RowKit Go.ChangeShapes Go.WideShapes Go.Deep Sad
section
variable {H : Type} {enc : TypeId × Value → H} {w : World} {base : Nat} {spare : Nat → Bool} {held : Bool} {fuel : Nat}
theorem bulk_part {d : DataW H} {l : List (DataW H)} (h : d ∈ l) : Rows.uptoBulk d ≤ Rows.uptoBulkAll l := by
  induction l with
  | nil => cases h
  | cons x r ih =>
    simp only [Rows.uptoBulkAll]
    rcases List.mem_cons.1 h with e | e
    · subst e; omega
    · have := ih e; omega
theorem bulk_one (d : DataW H) : 1 ≤ Rows.uptoBulk d := by
  cases d with
  | lit l => cases l <;> simp [Rows.uptoBulk]
  | nil => simp [Rows.uptoBulk]
  | ptr d => simp [Rows.uptoBulk]
  | slice elems spare => simp [Rows.uptoBulk]
  | agg parts => simp [Rows.uptoBulk]
  | iface t d => simp [Rows.uptoBulk]
  | map entries => simp [Rows.uptoBulk]
  | held h => simp [Rows.uptoBulk]
theorem bulk_len (l : List (DataW H)) : l.length ≤ Rows.uptoBulkAll l := by
  induction l with
  | nil => simp [Rows.uptoBulkAll]
  | cons x r ih => have := bulk_one x; simp only [Rows.uptoBulkAll, List.length_cons]; omega
/-- A slice of pairs. -/
theorem open_pairs {v : Value} {x : DataW H × List MemPlace} (h : DataW.trod enc Tryd.prog w base spare held fuel 37 [v] = some x) :
    ∃ a n c L, v = .slice a n c ∧ PairRow w a n c L ∧ n ≤ Rows.uptoBulk x.1 ∧ ∀ p ∈ L, p.1.size + p.2.size ≤ Rows.uptoBulk x.1 := by
  rcases open_slice_pairs Tryd.underlying37 Tryd.underlying59 (by kernel_rfl) rfl rfl (by kernel_rfl) (by kernel_rfl) h with ⟨hcs, _⟩ | ⟨a, l, c, m, n, V0, V1, D0, D1, P0, P1, hcs, _, hl, hm, hmm, hx, hV⟩
  · simp only [List.cons.injEq, and_true] at hcs
    subst hcs
    exact ⟨none, 0, 0, [], rfl, ⟨rfl, Nat.le_refl _, .inl rfl⟩, Nat.zero_le _, by simp⟩
  · simp only [List.cons.injEq, and_true] at hcs
    subst hcs
    have hle : l ≤ m := by rw [hmm]; split <;> omega
    have each : ∀ i, i < m → ∃ s : ByteArray × ByteArray, (V0 i = .string s.1 ∧ V1 i = .string s.2) ∧ D0 i = .lit (.string s.1.data.toList) ∧ D1 i = .lit (.string s.2.data.toList) := fun i hi => by
      obtain ⟨_, _, g0, g1⟩ := hV i hi
      obtain ⟨s0, e0, d0, _⟩ := DataW.trod_string Tryd.underlying9 g0
      obtain ⟨s1, e1, d1, _⟩ := DataW.trod_string Tryd.underlying9 g1
      simp only [List.cons.injEq, and_true] at e0 e1
      simp only [Prod.mk.injEq] at d0 d1
      exact ⟨(s0, s1), ⟨e0, e1⟩, d0.1, d1.1⟩
    obtain ⟨S, hS⟩ := choose_lt each
    have hb : ∀ i, i < l → (S i).1.size + (S i).2.size ≤ Rows.uptoBulk x.1 := fun i hi => by
      rw [hx]
      have h1 : (DataW.agg [D0 i, D1 i] : DataW H) ∈ (List.range l).map fun i => DataW.agg [D0 i, D1 i] := List.mem_map.2 ⟨i, List.mem_range.2 hi, rfl⟩
      have h2 := bulk_part h1
      simp only [Rows.uptoBulk]
      simp only [Rows.uptoBulk, Rows.uptoBulkAll, (hS i (by omega)).2.1, (hS i (by omega)).2.2] at h2
      have e0 : (S i).1.data.toList.length = (S i).1.size := by rw [Array.length_toList]; rfl
      have e1 : (S i).2.data.toList.length = (S i).2.size := by rw [Array.length_toList]; rfl
      omega
    refine ⟨_, _, _, (List.range l).map S, rfl, ⟨by simp, hl, ?_⟩, ?_, fun p hp => ?_⟩
    · rcases Nat.eq_zero_or_pos l with h0 | h0
      · exact .inl h0
      · have hsp : ∃ b o, a = ⟨b, o, none⟩ := by
          obtain ⟨_, b, o, hx, _⟩ := argRow_of (w := w) (x := a) (len := 1) (cap := 1) (f := fun _ => V0 0) (Nat.le_refl _) (fun i hi => by
            have : i = 0 := by omega
            subst this
            simpa using (hV 0 (by omega)).1) |>.imp id (fun h => h.resolve_left (by omega))
          exact ⟨b, o, Option.some.inj hx⟩
        obtain ⟨b, o, rfl⟩ := hsp
        refine .inr ⟨b, o, rfl, fun i hi => ?_⟩
        obtain ⟨g0, g1, _⟩ := hV i (by omega)
        rw [add_plain] at g0 g1
        have hSi := (hS i (by omega)).1
        rw [g0, show o + i * 2 + 1 = o + (i * 2 + 1) by omega, g1, hSi.1, hSi.2]
        simp [List.getD, hi]
    · rw [hx]
      simp only [Rows.uptoBulk]
      have := bulk_len (H := H) ((List.range l).map fun i => DataW.agg [D0 i, D1 i])
      rw [List.length_map, List.length_range] at this
      omega
    · obtain ⟨i, hi, rfl⟩ := List.mem_map.1 hp
      exact hb i (List.mem_range.1 hi)
theorem open_u64 {cs : List Value} {x : DataW H × List MemPlace} (h : DataW.trod enc Tryd.prog w base spare held fuel 22 cs = some x) : ∃ n : Nat, cs = [.int .u64 n] ∧ n < 18446744073709551616 := by
  obtain ⟨n, rfl, _, hw⟩ := DataW.trod_int Tryd.underlying22 h
  have hx : 0 ≤ n ∧ n ≤ 18446744073709551615 := by simpa [Lit.wf, IntKind.min, IntKind.max, IntKind.signed, IntKind.bits] using hw
  exact ⟨n.toNat, by rw [show ((n.toNat : Nat) : Int) = n by omega], by omega⟩
theorem cells_split {cs : List Value} {k : Nat} (h : cs.length = k) {v : Value} {rest : List Value} (h1 : cs.take 1 = [v]) (h2 : cs.drop 1 = rest) : cs = v :: rest := by
  rw [← List.take_append_drop 1 cs, h1, h2]; rfl
theorem len2 {α : Type} {l : List α} (h : l.length = 2) : ∃ a b, l = [a, b] := by
  match l, h with
  | [a, b], _ => exact ⟨a, b, rfl⟩
theorem len4 {α : Type} {l : List α} (h : l.length = 4) : ∃ a b c d, l = [a, b, c, d] := by
  match l, h with
  | [a, b, c, d], _ => exact ⟨a, b, c, d, rfl⟩
theorem len7 {α : Type} {l : List α} (h : l.length = 7) : ∃ a b c d e f g, l = [a, b, c, d, e, f, g] := by
  match l, h with
  | [a, b, c, d, e, f, g], _ => exact ⟨a, b, c, d, e, f, g, rfl⟩
/-- An identifier. -/
theorem open_id {cs : List Value} {x : DataW H × List MemPlace} (h : DataW.trod enc Tryd.prog w base spare held fuel 24 cs = some x) : ∃ m q : Nat, cs = [.int .u64 m, .int .u64 q] ∧ m < 18446744073709551616 ∧ q < 18446744073709551616 := by
  obtain ⟨y0, y1, n, _, hl, h0, h1⟩ := trod_struct2 Tryd.underlying24 h
  have hC : Tryd.prog.cellsOf 24 = 2 := by kernel_rfl
  have hC1 : Tryd.prog.cellsOf 22 = 1 := by kernel_rfl
  rw [hC] at hl
  obtain ⟨a, b, rfl⟩ := len2 hl
  obtain ⟨m, e0, hm⟩ := open_u64 h0
  obtain ⟨q, e1, hq⟩ := open_u64 h1
  dsimp only at e0 e1
  rw [hC1] at e0 e1
  simp only [List.drop_zero, List.take_succ_cons, List.take_zero, List.drop_succ_cons, List.cons.injEq, and_true] at e0 e1
  exact ⟨m, q, by rw [e0, e1], hm, hq⟩
/-- An ask. -/
theorem open_ask {cs : List Value} {x : DataW H × List MemPlace} (h : DataW.trod enc Tryd.prog w base spare held fuel 48 cs = some x) (hb : Rows.uptoBulk x.1 ≤ 1048576) :
    ∃ A : AskN, cs = [.int .u8 A.k, .int .u64 A.id.1, .int .u64 A.id.2, .slice A.a A.n A.c, .int .u64 A.to.1, .int .u64 A.to.2, .int .i64 A.N] ∧ PairRow w A.a A.n A.c A.L ∧ A.n ≤ 1048576 ∧ (∀ p ∈ A.L, p.1.size + p.2.size ≤ 1048576) ∧ (0 ≤ A.k ∧ A.k ≤ 255) ∧ (A.id.1 < 18446744073709551616 ∧ A.id.2 < 18446744073709551616) ∧ (A.to.1 < 18446744073709551616 ∧ A.to.2 < 18446744073709551616) ∧ (-9223372036854775808 ≤ A.N ∧ A.N ≤ 9223372036854775807) := by
  obtain ⟨xs, n, _, hx, hl, hlen, hf⟩ := DataW.trod_struct Tryd.underlying48 h
  have hC : Tryd.prog.cellsOf 48 = 7 := by kernel_rfl
  have hCe : Tryd.prog.cellsOf 39 = 3 := by kernel_rfl
  have hCi : Tryd.prog.cellsOf 24 = 2 := by kernel_rfl
  have hCk : Tryd.prog.cellsOf 46 = 1 := by kernel_rfl
  have hCn : Tryd.prog.cellsOf 3 = 1 := by kernel_rfl
  have hCp : Tryd.prog.cellsOf 37 = 1 := by kernel_rfl
  rw [hC] at hl
  obtain ⟨c0, c1, c2, c3, c4, c5, c6, rfl⟩ := len7 hl
  obtain ⟨y0, y1, y2, y3, rfl⟩ := len4 hlen
  have g0 : DataW.trod enc Tryd.prog w base spare held n 46 (([c0, c1, c2, c3, c4, c5, c6].drop 0).take (Tryd.prog.cellsOf 46)) = some y0 := hf 0 _ rfl
  have g1 : DataW.trod enc Tryd.prog w base spare held n 39 (([c0, c1, c2, c3, c4, c5, c6].drop 1).take (Tryd.prog.cellsOf 39)) = some y1 := hf 1 _ rfl
  have g2 : DataW.trod enc Tryd.prog w base spare held n 24 (([c0, c1, c2, c3, c4, c5, c6].drop 4).take (Tryd.prog.cellsOf 24)) = some y2 := hf 2 _ rfl
  have g3 : DataW.trod enc Tryd.prog w base spare held n 3 (([c0, c1, c2, c3, c4, c5, c6].drop 6).take (Tryd.prog.cellsOf 3)) = some y3 := hf 3 _ rfl
  rw [hCk] at g0
  rw [hCe] at g1
  rw [hCi] at g2
  rw [hCn] at g3
  simp only [List.drop_zero, List.take_succ_cons, List.take_zero, List.drop_succ_cons, List.getElem?_cons_zero, List.getElem?_cons_succ] at g0 g1 g2 g3
  obtain ⟨k, e0, _, hk⟩ := DataW.trod_int Tryd.underlying46 g0
  obtain ⟨tm, tq, e2, htm, htq⟩ := open_id g2
  obtain ⟨N, e3, _, hN⟩ := DataW.trod_int Tryd.underlying3 g3
  obtain ⟨z0, z1, n', hy1, hl1, h0', h1'⟩ := trod_struct2 Tryd.underlying39 g1
  have h0 : DataW.trod enc Tryd.prog w base spare held n' 24 (([c1, c2, c3].drop 0).take (Tryd.prog.cellsOf 24)) = some z0 := h0'
  have h1 : DataW.trod enc Tryd.prog w base spare held n' 37 (([c1, c2, c3].drop 2).take (Tryd.prog.cellsOf 37)) = some z1 := h1'
  rw [hCi] at h0
  rw [hCp] at h1
  simp only [List.drop_zero, List.take_succ_cons, List.take_zero, List.drop_succ_cons] at h0 h1
  obtain ⟨m, q, e1, hm, hq⟩ := open_id h0
  obtain ⟨a, pn, pc, L, ep, hrow, hpn, hpl⟩ := open_pairs h1
  simp only [List.cons.injEq, and_true] at e0 e1 e2 e3
  have hbz : Rows.uptoBulk z1.1 ≤ 1048576 := by
    rw [hx] at hb
    simp only [List.map_cons, List.map_nil, Rows.uptoBulk, Rows.uptoBulkAll] at hb
    have : Rows.uptoBulk y1.1 = Rows.uptoBulkAll [z0.1, z1.1] + 1 := by rw [hy1]; simp only [Rows.uptoBulk]
    simp only [Rows.uptoBulkAll] at this
    omega
  have hk' : 0 ≤ k ∧ k ≤ 255 := by simpa [Lit.wf, IntKind.min, IntKind.max, IntKind.signed, IntKind.bits] using hk
  have hN' : -9223372036854775808 ≤ N ∧ N ≤ 9223372036854775807 := by simpa [Lit.wf, IntKind.min, IntKind.max, IntKind.signed, IntKind.bits] using hN
  refine ⟨⟨k, (m, q), a, pn, pc, L, (tm, tq), N⟩, by rw [e0, e1.1, e1.2, e2.1, e2.2, e3, ep], hrow, by dsimp only; omega, fun p hp => Nat.le_trans (hpl p hp) hbz, hk', ⟨hm, hq⟩, ⟨htm, htq⟩, hN'⟩
/-- A slice of asks that came in. -/
theorem asks_arg {a : Option Addr} {len cap : Nat} {d : DataW H} {ps : List MemPlace} (h : DataW.Trod enc Tryd.prog w base spare held 31 (.slice a len cap) d ps) (hb : Rows.uptoBulk d ≤ 1048576) :
    ∃ Q : List AskN, AskRow w a len cap Q ∧ len ≤ 1048576 ∧ ∀ A ∈ Q, ∀ p ∈ A.L, p.1.size + p.2.size ≤ 1048576 := by
  obtain ⟨fuel, hf⟩ := h
  have hC : Tryd.prog.cellsOf 48 = 7 := by kernel_rfl
  rcases open_slice Tryd.underlying31 hf with ⟨hcs, _⟩ | ⟨x, l, c, m, n, D, Pl, hcs, _, hl, hm, hmm, hd, hi⟩
  · simp [Value.cells] at hcs
    obtain ⟨rfl, rfl, rfl⟩ := hcs
    exact ⟨[], ⟨rfl, Nat.le_refl _, .inl rfl⟩, Nat.zero_le _, by simp⟩
  · simp [Value.cells] at hcs
    obtain ⟨rfl, rfl, rfl⟩ := hcs
    have hd1 : d = .slice ((List.range len).map D) ((List.range (m - len)).map fun j => D (len + j)) := (Prod.mk.inj hd).1
    rw [hd1] at hb
    simp only [Rows.uptoBulk] at hb
    have hle : len ≤ m := by rw [hmm]; split <;> omega
    have hlen := bulk_len (H := H) ((List.range len).map D)
    rw [List.length_map, List.length_range] at hlen
    have each : ∀ i, i < len → ∃ A : AskN, (∀ j, j < 7 → w.cell? ((x.add (i * 7)).add j) = [.int .u8 A.k, .int .u64 A.id.1, .int .u64 A.id.2, .slice A.a A.n A.c, .int .u64 A.to.1, .int .u64 A.to.2, .int .i64 A.N][j]?) ∧ PairRow w A.a A.n A.c A.L ∧ A.n ≤ 1048576 ∧ (∀ p ∈ A.L, p.1.size + p.2.size ≤ 1048576) ∧ (0 ≤ A.k ∧ A.k ≤ 255) ∧ (A.id.1 < 18446744073709551616 ∧ A.id.2 < 18446744073709551616) ∧ (A.to.1 < 18446744073709551616 ∧ A.to.2 < 18446744073709551616) ∧ (-9223372036854775808 ≤ A.N ∧ A.N ≤ 9223372036854775807) := fun i hii => by
      obtain ⟨cs', h1, h2⟩ := hi i (by omega)
      rw [hC] at h1
      obtain ⟨_, _, h3⟩ := World.cells?_some h1
      obtain ⟨A, rfl, hA⟩ := open_ask h2 (by
        have h4 : D i ∈ (List.range len).map D := List.mem_map.2 ⟨i, List.mem_range.2 hii, rfl⟩
        have := bulk_part h4
        show Rows.uptoBulk (D i) ≤ _
        omega)
      exact ⟨A, h3, hA⟩
    haveI : Inhabited AskN := ⟨⟨0, (0, 0), none, 0, 0, [], (0, 0), 0⟩⟩
    obtain ⟨A, hA⟩ := choose_lt each
    refine ⟨(List.range len).map A, ⟨by simp, hl, ?_⟩, by omega, fun B hB => ?_⟩
    · rcases Nat.eq_zero_or_pos len with h0 | h0
      · exact .inl h0
      · have hsp : ∃ b o, x = ⟨b, o, none⟩ := by
          obtain ⟨_, b, o, hx, _⟩ := argRow_of (w := w) (x := x) (len := 1) (cap := 1) (f := fun _ => .int .u8 (A 0).k) (Nat.le_refl _) (fun i hi => by
            have : i = 0 := by omega
            subst this
            have := (hA 0 h0).1 0 (by omega)
            rw [Go.Deep.add_add] at this
            simpa using this) |>.imp id (fun h => h.resolve_left (by omega))
          exact ⟨b, o, Option.some.inj hx⟩
        obtain ⟨b, o, rfl⟩ := hsp
        refine .inr ⟨b, o, rfl, fun i hi => ?_⟩
        have hi' : i < len := by simpa using hi
        obtain ⟨hc, hr, hn, _, hk, hid, hto, hN⟩ := hA i hi'
        have g : ∀ j, j < 7 → w.cell? ⟨b, o + i * 7 + j, none⟩ = [.int .u8 (A i).k, .int .u64 (A i).id.1, .int .u64 (A i).id.2, .slice (A i).a (A i).n (A i).c, .int .u64 (A i).to.1, .int .u64 (A i).to.2, .int .i64 (A i).N][j]? := fun j hj => by
          have := hc j hj
          rw [add_plain, add_plain] at this
          exact this
        simp only [List.getElem_map, List.getElem_range]
        exact ⟨g 0 (by omega), g 1 (by omega), g 2 (by omega), g 3 (by omega), g 4 (by omega), g 5 (by omega), g 6 (by omega), hr, by omega, hk, hid, hto, hN⟩
    · obtain ⟨i, hi, rfl⟩ := List.mem_map.1 hB
      exact (hA i (List.mem_range.1 hi)).2.2.2.1
end
end Go.Proofs.YtbjpfnafhhbmaaaDoor

/- The row of the law StreamPlays, and its card: for every input of at most 1048576 values and letters the Go function returns true and its arguments read as before, out of the walk streamPlays_walk. The library's variables that the row lists hold what the program's text lays (the card's tie, given). -/
namespace Go.Proofs.YtbjpfnafhhbmaaaDoor.streamPlaysRow
open Go.ChangeShapes Go.WideShapes Go.ChangeAt Go.RowKit
open Go.ChangeMaps (open_string shut_string)
set_option linter.unusedVariables false
set_option linter.unusedSimpArgs false
theorem own : ownKnob Tryd.prog.godebug = none := by kernel_rfl
theorem laidOut : laidOutB Tryd.prog = true := by kernel_rfl
theorem bulk {H : Type} {l : List (DataW H)} (hk : Rows.uptoSmall H l = true) : Rows.uptoBulkAll l ≤ 1048576 := of_decide_eq_true hk
theorem reads (os : Os) {H : Type} (enc : TypeId × Value → H) : ∃ places, DataW.whole enc Tryd.prog ((Lay.laidWorld os).forCall (fun _ _ => 0) ⟨#[], #[.slice none 0 0], []⟩).memory Tryd.f6.params.toList Rows.streamPlaysSpec.vars false (#[.slice none 0 0] : Array Value).toList 8 = some ([.nil], [], places) :=
  ⟨[], by kernel_rfl⟩
set_option maxRecDepth 100000 in
theorem contract (H : Type) (enc : TypeId × Value → H) (W : World) (base : Nat) (args : Array Value) (ds gs : List (DataW H)) (before : List MemPlace)
    (hval0 : ∀ (j : Nat) t v, Tryd.f6.params[j]? = some t → args[j]? = some v → Value.okWide Tryd.prog W .any base t v)
    (hW : DataW.Whole enc Tryd.prog Tryd.f6.params.toList Rows.streamPlaysSpec.vars false W args.toList ds gs before) (hk0 : Rows.uptoSmall H (ds ++ gs) = true)
    (hsz0 : (DataW.weightsEach Tryd.prog (Tryd.f6.params.toList ++ Rows.streamPlaysSpec.plain.varTypes Tryd.prog) (ds ++ gs)).all (· ≤ reachBytes) = true) (hL : Laid W) :
    Calls Tryd.prog 6 args W fun e W' => ∃ v, e = .returned v ∧ Rows.streamPlaysSpec.post enc Tryd.prog Tryd.f6 false true false false W args v W' := by
  have hsz := hsz0
  have hk := bulk hk0
  have hval : ∀ (j : Nat) t v, Tryd.f6.params[j]? = some t → args[j]? = some v → Value.okWide Tryd.prog W .any base t v := hval0
  have hW' := hW
  obtain ⟨p, q, hA0, hV, rfl, hfz, hnd⟩ := hW
  have hA : DataW.TrodAll enc Tryd.prog W 0 (fun _ => true) true Tryd.f6.params.toList args.toList ds p := hA0
  rw [Tryd.params6] at hA hval hsz
  obtain ⟨v0, vs0, d0, ds0, p0, q0, hargs, rfl, rfl, h0, r0⟩ := trodAll_cons hA
  obtain ⟨rfl, rfl, rfl⟩ := trodAll_nil r0
  obtain rfl : args = #[v0] := by cases args; simp_all
  obtain ⟨rfl, rfl⟩ := trodVars_none hV
  have k0 := h0
  have lt0 : ∀ x ∈ p0, x.block < W.heap.size := by obtain ⟨m, hm⟩ := k0; exact DataW.trod_lt m _ _ _ hm
  obtain ⟨a0, len0, cap0, rfl⟩ := okWide_slice Tryd.underlying31 (hval 0 31 v0 rfl rfl)
  have b0 : Rows.uptoBulk d0 ≤ 1048576 := by
    have := hk
    simp only [List.cons_append, List.nil_append, List.append_nil, Rows.uptoBulkAll] at this
    omega
  obtain ⟨z0, w0, l0, y0⟩ := asks_arg h0 b0
  simp only [List.cons_append, List.nil_append, List.append_nil, Rows.uptoBulkAll, Rows.uptoBulk] at hk
  clear hA0 hval0 hsz0 hsz
  refine (streamPlays_walk hL a0 len0 cap0 z0 w0 l0 y0).mono fun e W' ⟨he, bel⟩ => ?_
  subst he
  exact ⟨_, rfl, _, _, _, [], _, [], hW', trodAll_mk1 (shut_bool Tryd.underlying4 _), (trodAll_cons_mk (Below.trod laidOut (by kernel_rfl) (of_decide_eq_true (by kernel_rfl)) k0 bel lt0) trodAll_mk0), rfl, bel.frame _, fun h => by cases h⟩
set_option maxRecDepth 100000 in
theorem liftedUpto (os : Os) (started : os.Started) (H : Type) (enc : TypeId × Value → H) (F : Stop.Interp) :
    ReturnsInHanded {} Tryd.checked os 6 .any ((Rows.OpenSpec.upto Rows.streamPlaysSpec).preRow enc Tryd.prog Tryd.f6 Rows.streamPlaysUptoRow.domain false Rows.streamPlaysUptoRow.laid) (((Rows.OpenSpec.upto Rows.streamPlaysSpec).at F).post enc Tryd.prog Tryd.f6 false true false false) := by
  obtain ⟨places, hx⟩ := reads os enc
  refine returnsInHanded_of_row (C := Tryd.checked) (s := (Rows.OpenSpec.upto Rows.streamPlaysSpec)) own started (by kernel_rfl) Tryd.func6
    (witness_row_at (enc := enc) (C := Tryd.checked) false (Lay.laidWorld os) #[.slice none 0 0] rfl (by kernel_rfl) (by kernel_rfl) (by kernel_rfl)
      (OpenSpec.preRow_of_cond 8 hx (by kernel_rfl) (fun k hk => by cases hk; kernel_rfl) (by kernel_rfl) (Lay.laid_met os _))) ?_
  intro W base args ds gs before hval hW _ hcond hsz hL hS _
  exact contract H enc W base args ds gs before hval hW (hcond _ rfl) hsz (Lay.laid_of hL hS)
theorem saidUpto : Rows.StreamPlaysUptoSaid :=
  OpenClaim.holds_of_cond 6 Tryd.f6 rfl rfl rfl rfl rfl rfl rfl ⟨rfl, rfl, rfl, rfl, rfl⟩ rfl rfl rfl rfl rfl (by kernel_rfl) Tryd.func6 (by kernel_rfl)
    (of_decide_eq_true (by kernel_rfl)) (by unfold Func.isWrapper; first | (rw [if_pos (by decide +kernel)]; kernel_rfl) | (rw [if_neg (by decide +kernel)]; exact ⟨rfl, rfl⟩))
    (fun os started H enc _ F => by rw [OpenClaim.pre_eq_preRow]; exact liftedUpto os started H enc F)
theorem plain (f : FuncId) (fn : Func) (hf : Tryd.pinned.checked.prog.funcNamed "stillroom/stillroomlaw16.StreamPlays" = some f) (hfn : Tryd.pinned.checked.prog.funcs[f]? = some fn) :
    true = Tryd.pinned.checked.prog.looks [] ∧ ∀ (j : Nat) t, fn.params[j]? = some t → Tryd.pinned.checked.prog.wantsStandIn t = false := by
  obtain rfl : f = 6 := Option.some.inj ((show Tryd.prog.funcNamed "stillroom/stillroomlaw16.StreamPlays" = some 6 by kernel_rfl).symm.trans hf) |>.symm
  obtain rfl : fn = Tryd.f6 := (Option.some.inj (Tryd.func6.symm.trans hfn)).symm
  refine ⟨by kernel_rfl, fun j t ht => ?_⟩
  rw [Tryd.params6] at ht
  have ht := Array.mem_of_getElem? ht
  have all : ∀ t ∈ (#[31] : Array TypeId), Tryd.prog.wantsStandIn t = false := by
    intro t ht
    simp only [List.mem_toArray, List.mem_cons, List.not_mem_nil, or_false] at ht
    subst ht; kernel_rfl
  exact all t ht
end Go.Proofs.YtbjpfnafhhbmaaaDoor.streamPlaysRow
namespace Go.Proofs.YtbjpfnafhhbmaaaDoor
open Go.Proofs.YtbjpfnafhhbmaaaDoor.streamPlaysRow in
/-- The law's card. -/
theorem streamPlays_holds : Rows.StreamPlaysUptoCardSaid :=
  Claim7.holds_tied_plain_at .later [] _ _ _ _ saidUpto (fun _ h => by cases h) (by kernel_rfl) (fun _ h => by cases h) streamPlaysUpto_row_tie rfl ⟨rfl, rfl⟩ (by kernel_rfl) rfl plain (by kernel_rfl)
end Go.Proofs.YtbjpfnafhhbmaaaDoor
