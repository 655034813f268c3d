/- The row of the law StreamOwn, and its card: for every input of at most 1048576 values and letters the Go function returns true and its arguments read as before, out of the walk streamOwn_walk. The library's variables that the row lists hold what the program's text lays (the card's tie, given). -/
import Derived.Test.YtmaemgihhipllaaGreatDoorMStreamOwn4
import Derived.Test.YtmaemgihhipllaaGreatDoorMStreamOwn2
import Derived.Test.YtmaemgihhipllaaGreatDoorRows
import Derived.Test.YtmaemgihhipllaaGreatDoorMStreamOwn1
import Derived.Stop.LaidErr
import Derived.Lib.LaidTab
import Derived.LaidLaws
import Derived.ChangeSame
import Derived.Test.YtmaemgihhipllaaGreatDoorCards
import Derived.Test.YtmaemgihhipllaaGreatDoorTie
import Derived.WalkKit
import Derived.ProofKit
import Derived.OpenShut
import Derived.ShutString
import Derived.ChangeOld
import Derived.Below
import Derived.SizedLaws
import Derived.Laws.Cover2
import Derived.Lib.SmallJoins
import Derived.Deep.Slices
import Derived.Deep.SlicePairs
import Derived.SliceStrings
import Derived.JoinedCond
import Derived.Deep.DeepHandedRow
/- what StreamSplits leans on: a slice cut short, two joined; the plain law. -/
namespace Go.Proofs.YtmaemgihhipllaaGreatDoor.Sad
open Go.Proofs.YtmaemgihhipllaaGreatDoor
set_option linter.unusedVariables false
set_option linter.unusedSimpArgs false
open Go.RowKit RT Go.Shelf
theorem SliceN.take {w : World} {B : Nat} {e : TypeId} {z : Nat} {a : Option Addr} {n c : Nat} {xs : List Value} (h : SliceN w B e z (.slice a n c) n xs) {k : Nat} (hk : k ≤ n) : SliceN w B e z (.slice a k c) k (xs.take (k * z)) := by
  refine ⟨by rw [List.length_take, h.1]; exact Nat.min_eq_left (Nat.mul_le_mul_right _ hk), ?_⟩
  rcases h.2 with ⟨h1, h2⟩ | ⟨g, cap, cur, h1, h2, h3, h4, h5, h6, h7⟩
  · simp only [Value.slice.injEq] at h1
    obtain ⟨rfl, _, rfl⟩ := h1
    obtain rfl : k = 0 := by omega
    exact .inl ⟨rfl, rfl⟩
  · simp only [Value.slice.injEq, true_and] at h1
    obtain ⟨rfl, rfl⟩ := h1
    refine .inr ⟨g, c, cur, rfl, h2, h3, h4, by omega, h6, ?_⟩
    rw [← h7, List.take_take, Nat.min_eq_left (Nat.mul_le_mul_right _ hk)]
theorem flat_take : ∀ (A : List Told) (k : Nat), (A.flatMap entV).take (k * 3) = (A.take k).flatMap entV
  | [], k => by simp
  | x :: A, 0 => by simp
  | x :: A, k + 1 => by
    rw [List.flatMap_cons, List.take_succ_cons, List.flatMap_cons, show (k + 1) * 3 = 3 + k * 3 by omega, ← flat_take A k]
    rw [List.take_append, List.take_of_length_le (by simp [entV])]
    simp [entV]
theorem Rows2.take {w : World} {Q : Nat → Prop} : ∀ {xs : List Told} {es : List Ent} (k : Nat), Rows2 w Q xs es → Rows2 w Q (xs.take k) (es.take k)
  | [], [], k, _ => by simp; trivial
  | x :: xs, e :: es, 0, _ => trivial
  | x :: xs, e :: es, k + 1, h => ⟨h.1, Rows2.take k h.2⟩
  | [], _ :: _, _, h => h.elim
  | _ :: _, [], _, h => h.elim
theorem EntsOut.take {w : World} {n₀ : Nat} {a : Option Addr} {n c : Nat} {E : List Ent} (h : EntsOut w n₀ (.slice a n c) E) {k : Nat} (hk : k ≤ n) : EntsOut w n₀ (.slice a k c) (E.take k) := by
  obtain ⟨Vs, h1, h2, h3⟩ := h
  have hl : Vs.length = n := by
    obtain ⟨a', c', e, _⟩ := h1.form
    simp only [Value.slice.injEq] at e
    exact e.2.1.symm
  rw [hl] at h1
  have hv : (Vs.take k).length = k := by rw [List.length_take]; omega
  refine ⟨Vs.take k, ?_, Rows2.imp (fun b _ hb => ⟨hb.1, fun e => hb.2 (by cases a with | none => cases e | some x => exact e)⟩) (Rows2.take k h2), ?_, fun x hx => h3.2 x (List.mem_of_mem_take hx)⟩
  · rw [hv, ← flat_take]
    exact SliceN.take h1 hk
  · rw [List.map_take]
    exact h3.1.sublist (List.take_sublist _ _)
theorem append_none {P : Program} {w : World} {B : Nat} {t ty e : TypeId} {i : TypeInfo} {z : Nat} (ht : P.underlying t = some (.slice e)) (hi : P.info? e = some i) {v : Value} {n : Nat} {xs : List Value} (h : SliceN w B e z v n xs) (A : Option Addr) (c : Nat) :
    (Builtin.append_ #[t, t] ty #[v, .slice A 0 c]).run P w = .ok v w := by
  rcases h.2 with ⟨rfl, rfl⟩ | ⟨g, cap, cur, rfl, _, _, _, hnc, _⟩ <;> cases A <;>
    simp [Builtin.append_, run_underlying ht, sizeOf, typeInfo, hi, Builtin.lenOf, Builtin.firstCells, storeCells, loadCells, loadCellsFrom, *]
theorem EntsOut.join {w : World} {n₁ n₂ : Nat} {v v2 : Value} {E1 E2 : List Ent} (h1 : EntsOut w n₁ v E1) (h2 : EntsOut w n₂ v2 E2) (hn : n₁ ≤ w.heap.size) (hap : ∀ k, vblock v = some k → k < n₂) (hsz : E1.length + E2.length ≤ 1000000000) :
    ∃ v' w' a c, (Builtin.append_ #[37, 37] 37 #[v, v2]).run Tryz.prog w = .ok v' w' ∧ v' = .slice a (E1 ++ E2).length c ∧ EntRow w' a (E1 ++ E2).length c (E1 ++ E2) ∧ Chg (fun k => vblock v = some k) w w' := by
  obtain ⟨i0, g1, g2, g3, g4⟩ := info_parts info_entry
  obtain ⟨a2, c2, hv2, hrow2⟩ := h2.row
  rcases Nat.eq_zero_or_pos E2.length with h0 | h0
  · have hE2 : E2 = [] := List.eq_nil_of_length_eq_zero h0
    subst hE2
    obtain ⟨a1, c1, hv1, hrow1⟩ := h1.row
    obtain ⟨Vs, s1, _⟩ := h1
    refine ⟨v, w, a1, c1, ?_, by rw [List.append_nil]; exact hv1, by rw [List.append_nil]; exact hrow1, Chg.refl _ _⟩
    rw [hv2]
    exact append_none Tryz.underlying37 g1 s1 _ _
  · obtain ⟨Vs, s1, r1, d1⟩ := h1
    obtain ⟨Us, s2, r2, d2⟩ := h2
    have l1 := r1.length
    have l2 := r2.length
    obtain ⟨g, cap, cur, he, _⟩ := s2.2.resolve_left (by omega)
    obtain ⟨v', w', hr, s3, c3, hv3⟩ := run_append_ownN (P := Tryz.prog) (t := 37) (ty := 37) (z := 3) (w := w) Tryz.underlying37 g1 g2 g3 g4 rfl s1 hn ⟨g, 0, none⟩ Us.length cap (Us.flatMap entV) (by omega) s2.1 (fun j u hu => by
      rw [Addr.add_lit, Nat.zero_add]
      have hj : j < Us.length * 3 := by
        rcases Nat.lt_or_ge j (Us.flatMap entV).length with h | h
        · rw [s2.1] at h; exact h
        · rw [List.getElem?_eq_none h] at hu; cases hu
      rw [s2.cell he hj]
      simp [List.getD, hu]) (fun u hu => by
      obtain ⟨x, _, hx⟩ := List.mem_flatMap.1 hu
      simp [entV] at hx
      rcases hx with rfl | rfl | rfl <;> rfl) (by unfold maxLen; omega) (by omega)
    have hr' : (Builtin.append_ #[37, 37] 37 #[v, v2]).run Tryz.prog w = .ok v' w' := by rw [he]; exact hr
    have hRows : Rows2 w' (fun _ => True) (Vs ++ Us) (E1 ++ E2) := by
      refine Rows2.append (Rows2.imp (fun _ _ _ => trivial) (Rows2.chg c3 (fun b hb he => hb.2 he) r1)) (Rows2.imp (fun _ _ _ => trivial) (Rows2.chg c3 (fun b hb he => ?_) r2))
      have := hap b he
      omega
    have hs3 : SliceN w' n₁ 50 3 v' (Vs ++ Us).length ((Vs ++ Us).flatMap entV) := by rw [List.length_append, List.flatMap_append]; exact s3
    have hl3 := hRows.length
    obtain ⟨a, c, hv, hc, _⟩ := hs3.form
    rw [hl3] at hv hc
    refine ⟨v', w', a, c, hr', hv, ⟨rfl, hc, .inr ?_⟩, c3⟩
    obtain ⟨g', cap', cur', he', _⟩ := hs3.2.resolve_left (by rw [List.length_append]; omega)
    rw [hv] at he'
    simp only [Value.slice.injEq] at he'
    obtain ⟨rfl, _, rfl⟩ := he'
    refine ⟨g', 0, rfl, fun i hi => ?_⟩
    have hi' : i < (Vs ++ Us).length := by omega
    have hrr := hRows.get i hi' hi
    refine ⟨(Vs ++ Us)[i], fun j hj => ?_, hrr.1, hrr.2.1, hrr.2.2.1.2⟩
    have := hs3.cell (g := g') (i := i * 3 + j) hv (by omega)
    rw [Nat.zero_add, this, flatE (Vs ++ Us) i hi' j hj]
abbrev RisesE (E : List Ent) : Prop := E.Pairwise fun x y => lessN x.1 y.1 = true
/-- Rising entries: those up to a place and those from it on. -/
theorem split_rise {E : List Ent} (h : RisesE E) (t : Nat × Nat) : ∃ A B, E = A ++ B ∧ (∀ e ∈ A, lessN e.1 t = true) ∧ (∀ e ∈ B, lessN e.1 t = false) := by
  induction E with
  | nil => exact ⟨[], [], rfl, by simp, by simp⟩
  | cons x E ih =>
    have h' := List.pairwise_cons.1 h
    cases hx : lessN x.1 t with
    | true =>
      obtain ⟨A, B, e, hA, hB⟩ := ih h'.2
      exact ⟨x :: A, B, by rw [e]; rfl, fun y hy => by rcases List.mem_cons.1 hy with rfl | hy; exact hx; exact hA y hy, hB⟩
    | false =>
      refine ⟨[], x :: E, rfl, by simp, fun y hy => ?_⟩
      rcases List.mem_cons.1 hy with rfl | hy
      · exact hx
      · have h1 := h'.1 y hy
        rcases less_total hx with h2 | h2
        · exact less_asymm (less_trans h2 h1)
        · rw [← h2]; exact less_asymm h1
theorem upto_split {A B : List Ent} {t : Nat × Nat} (hA : ∀ e ∈ A, lessN e.1 t = true) (hB : ∀ e ∈ B, lessN e.1 t = false) (h : RisesE (A ++ B)) :
    ((A ++ B).takeWhile fun e => !lessN t e.1) = A ++ (B.take 1).filter fun e => decide (e.1 = t) := by
  induction A with
  | nil =>
    rw [List.nil_append, List.nil_append]
    cases B with
    | nil => rfl
    | cons x B =>
      rw [List.takeWhile_cons]
      have hx := hB x (by simp)
      by_cases he : x.1 = t
      · rw [if_pos (by rw [he, less_irrefl]; rfl)]
        have h2 := (List.pairwise_cons.1 h).1
        have : (B.takeWhile fun e => !lessN t e.1) = [] := by
          cases B with
          | nil => rfl
          | cons y B =>
            rw [List.takeWhile_cons, if_neg]
            have := h2 y (by simp)
            rw [he] at this
            rw [this]; simp
        rw [this]
        simp [he]
      · have : lessN t x.1 = true := by
          rcases less_total hx with h2 | h2
          · exact h2
          · exact absurd h2 he
        rw [if_neg (by rw [this]; simp)]
        simp [he]
  | cons x A ih =>
    rw [List.cons_append, List.takeWhile_cons, if_pos (by rw [less_asymm (hA x (by simp))]; rfl), ih (fun e he => hA e (by simp [he])) (List.pairwise_cons.1 h).2]
    rfl
theorem from_split {A B : List Ent} {t : Nat × Nat} (hA : ∀ e ∈ A, lessN e.1 t = true) (hB : ∀ e ∈ B, lessN e.1 t = false) : ((A ++ B).filter fun e => !lessN e.1 t) = B := by
  rw [List.filter_append, List.filter_eq_nil_iff.2 fun e he => by rw [hA e he]; simp, List.filter_eq_self.2 fun e he => by rw [hB e he]; rfl, List.nil_append]
def topN : Nat × Nat := (18446744073709551615, 18446744073709551615)
theorem top_all {E : List Ent} (h : ∀ e ∈ E, e.1.1 < 18446744073709551616 ∧ e.1.2 < 18446744073709551616) : (E.takeWhile fun e => !lessN topN e.1) = E := by
  induction E with
  | nil => rfl
  | cons x E ih =>
    have hx := h x (by simp)
    have e : lessN topN x.1 = false := by
      unfold lessN topN
      rw [decide_eq_false_iff_not]
      dsimp only
      omega
    rw [List.takeWhile_cons, if_pos (by rw [e]; rfl), ih fun e he => h e (by simp [he])]
end Go.Proofs.YtmaemgihhipllaaGreatDoor.Sad

/- StreamSplits' walk. -/
namespace Go.Proofs.YtmaemgihhipllaaGreatDoor.Sad
open Go.Proofs.YtmaemgihhipllaaGreatDoor
set_option linter.unusedVariables false
set_option linter.unusedSimpArgs false
open Go.RowKit RT Go.Shelf
theorem take_big {E : List Ent} {L : List Ent} (hL : L.length ≤ E.length) (h : E.length ≤ 200) : L.take ((1099511627776 : Int)).toNat = L := List.take_of_length_le (by omega)
theorem filter0 (E : List Ent) : (E.filter fun e => !lessN e.1 (0, 0)) = E := List.filter_eq_self.2 fun e _ => by simp [lessN]
/-- What a range of a stream tells, at a world. -/
theorem range_upto {w : World} {s : Nat} {F : Nat → Prop} {E : List Ent} {l : Nat × Nat} (h : Stm w s F E l) (hn : E.length ≤ 200) (t : Nat × Nat) :
    Calls Tryz.prog 6 #[ptrV s, .agg #[.int .u64 0, .int .u64 0], .agg #[.int .u64 t.1, .int .u64 t.2], .int .i64 1099511627776] w fun e w' => ∃ v, e = .returned v ∧ EntsOut w' w.heap.size v (E.takeWhile fun e => !lessN t e.1) ∧ Below w.heap.size w w' := by
  have := stm_range h (by omega) (a := 0) (b := 0) (c := t.1) (d := t.2) (by omega) (by omega) (most := 1099511627776)
  rw [filter0, show ((t.1, t.2) : Nat × Nat) = t from rfl, take_big (E := E) (List.Sublist.length_le (List.takeWhile_sublist _)) hn] at this
  exact this
theorem range_from {w : World} {s : Nat} {F : Nat → Prop} {E : List Ent} {l : Nat × Nat} (h : Stm w s F E l) (hn : E.length ≤ 200) {t : Nat × Nat} (h1 : t.1 < 18446744073709551616) (h2 : t.2 < 18446744073709551616) :
    Calls Tryz.prog 6 #[ptrV s, .agg #[.int .u64 t.1, .int .u64 t.2], .agg #[.int .u64 18446744073709551615, .int .u64 18446744073709551615], .int .i64 1099511627776] w fun e w' => ∃ v, e = .returned v ∧ EntsOut w' w.heap.size v (E.filter fun e => !lessN e.1 t) ∧ Below w.heap.size w w' := by
  have := stm_range h (by omega) (a := t.1) (b := t.2) (c := topN.1) (d := topN.2) h1 h2 (most := 1099511627776)
  rw [show ((t.1, t.2) : Nat × Nat) = t from rfl, show ((topN.1, topN.2) : Nat × Nat) = topN from rfl, top_all (fun e he => h.lt64.2 e (List.mem_filter.1 he).1), take_big (E := E) (List.length_filter_le _ _) hn] at this
  exact this
theorem range_full {w : World} {s : Nat} {F : Nat → Prop} {E : List Ent} {l : Nat × Nat} (h : Stm w s F E l) (hn : E.length ≤ 200) :
    Calls Tryz.prog 6 #[ptrV s, .agg #[.int .u64 0, .int .u64 0], .agg #[.int .u64 18446744073709551615, .int .u64 18446744073709551615], .int .i64 1099511627776] w fun e w' => ∃ v, e = .returned v ∧ EntsOut w' w.heap.size v E ∧ Below w.heap.size w w' := by
  have := range_from h hn (t := (0, 0)) (by omega) (by omega)
  rw [filter0] at this
  exact this
/-- The two stretches, the first one cut where they meet, are all. -/
theorem cut_law {E : List Ent} (h : RisesE E) (t : Nat × Nat) : let L := E.takeWhile fun e => !lessN t e.1; let M := E.filter fun e => !lessN e.1 t;
    (∀ j e, L.length = j + 1 → L[j]? = some e → e.1 = t → M ≠ [] → L.take j ++ M = E) ∧ (L = [] → L ++ M = E) ∧ (M = [] → L ++ M = E) ∧ (∀ j e, L.length = j + 1 → L[j]? = some e → e.1 ≠ t → L ++ M = E) := by
  obtain ⟨A, B, rfl, hA, hB⟩ := split_rise h t
  have h1 := upto_split hA hB h
  have h2 := from_split hA hB
  simp only [h1, h2]
  cases B with
  | nil => simp
  | cons x B =>
    by_cases hx : x.1 = t
    · have hf : ((x :: B).take 1).filter (fun e => decide (e.1 = t)) = [x] := by simp [hx]
      rw [hf]
      refine ⟨fun j e hl he _ _ => ?_, fun hl => by simp at hl, fun hl => by simp at hl, fun j e hl he hne => ?_⟩
      · have : j = A.length := by simp at hl; omega
        rw [this, List.take_left']
        rfl
      · have : j = A.length := by simp at hl; omega
        subst this
        simp at he
        rw [← he] at hne
        exact absurd hx hne
    · have hf : ((x :: B).take 1).filter (fun e => decide (e.1 = t)) = [] := by simp [hx]
      rw [hf, List.append_nil]
      refine ⟨fun j e hl he het _ => ?_, fun _ => rfl, fun _ => rfl, fun _ _ _ _ _ => rfl⟩
      have hm := List.mem_of_getElem? he
      have := hA e hm
      rw [het, less_irrefl] at this
      cases this
end Go.Proofs.YtmaemgihhipllaaGreatDoor.Sad

/- The book of pairs and entries: Entries, told a slice of entries that a call made. -/
namespace Go.Proofs.YtmaemgihhipllaaGreatDoor
set_option linter.unusedVariables false
set_option linter.unusedSimpArgs false
open Go.RowKit Sad
/-- The blocks of the first so many rows of pairs. -/
def rowsB (Vs : List Sad.Told) (k : Nat) (j : Nat) : Prop := ∃ x ∈ Vs.take k, vblock (vC x.2.2) = some j
theorem rowsB_next {Vs : List Sad.Told} (hd : (Vs.map fun x => x.2.2.1).Nodup) (hb : ∀ x ∈ Vs, ∃ b, x.2.2.1 = some ⟨b, 0, none⟩) {k : Nat} (hk : k < Vs.length) {j : Nat} (hj : vblock (vC Vs[k].2.2) = some j) : ¬ rowsB Vs k j := by
  rintro ⟨x, hx, he⟩
  obtain ⟨i, hi, rfl⟩ := List.getElem_of_mem hx
  have hi' : i < k := by rw [List.length_take] at hi; omega
  rw [List.getElem_take] at he
  obtain ⟨b1, e1⟩ := hb Vs[i] (List.getElem_mem _)
  obtain ⟨b2, e2⟩ := hb Vs[k] (List.getElem_mem _)
  unfold vC at he hj
  rw [e1] at he
  rw [e2] at hj
  simp only [vblock, Option.some.injEq] at he hj
  have hn := List.pairwise_iff_getElem.1 hd i k (by rw [List.length_map]; omega) (by rw [List.length_map]; omega) hi'
  simp only [List.getElem_map] at hn
  exact hn (by rw [e1, e2, he, hj])
theorem rowsB_succ {Vs : List Sad.Told} {k : Nat} (hk : k < Vs.length) (j : Nat) : rowsB Vs (k + 1) j ↔ rowsB Vs k j ∨ vblock (vC Vs[k].2.2) = some j := by
  unfold rowsB
  rw [List.take_succ_eq_append_getElem hk]
  constructor
  · rintro ⟨x, hx, he⟩
    rcases List.mem_append.1 hx with hx | hx
    · exact .inl ⟨x, hx, he⟩
    · have : x = Vs[k] := by simpa using hx
      subst this; exact .inr he
  · rintro (⟨x, hx, he⟩ | he)
    · exact ⟨x, List.mem_append.2 (.inl hx), he⟩
    · exact ⟨Vs[k], List.mem_append.2 (.inr (List.mem_singleton.2 rfl)), he⟩
/-- The book behind the first so many rows. -/
def BookK (w0 w : World) (b c : Nat) (te : Value) (E : List Held) (Bk : Nat → Prop) (Vs : List Sad.Told) (k : Nat) (wr : World) : Prop :=
  ∃ tp P Bk', BookX w0 wr b (c + k) tp te P E Bk' ∧ (∀ j, Bk' j → Bk j ∨ rowsB Vs k j ∨ w.heap.size ≤ j) ∧ Chg (fun j => Bk j ∨ rowsB Vs k j) w wr
set_option maxHeartbeats 3200000 in
set_option maxRecDepth 100000 in
theorem BookX.entries {w0 w : World} {b c : Nat} {tp te : Value} {P E : List Held} {Bk : Nat → Prop} (h : BookX w0 w b c tp te P E Bk) {n₀ : Nat} {v : Value} {L : List Ent} (ho : EntsOut w n₀ v L) (hc : c + L.length + 1 ≤ 1000000) (hL : ∀ e ∈ L, e.2.length ≤ 1000000000) (hfr : ∀ k, n₀ ≤ k → ¬ Bk k) (h0 : w0.heap.size ≤ n₀) (hn0 : n₀ ≤ w.heap.size) :
    Calls Tryz.prog 5 #[bkp b, v] w fun e w' => (∃ u, e = .returned u) ∧ (∃ c' tp' te' P' E' Bk', BookX w0 w' b c' tp' te' P' E' Bk' ∧ c' = c + L.length + 1 ∧ ∀ k, Bk' k → Bk k ∨ n₀ ≤ k) ∧ Chg (fun k => Bk k ∨ n₀ ≤ k) w w' := by
  obtain ⟨av, cv, rfl, hcv, hcm⟩ := ho.form
  obtain ⟨Vs, s1, r1, d1, z1⟩ := ho
  have hlen := r1.length
  obtain ⟨n, hn⟩ : ∃ n, n = L.length := ⟨_, rfl⟩
  have hrow : ∀ x ∈ Vs, ∃ b, x.2.2.1 = some ⟨b, 0, none⟩ := fun x hx => by
    obtain ⟨e, _, _, _, _, b, hb, _⟩ := r1.mem x hx
    exact ⟨b, hb⟩
  have hbig : ∀ k j, rowsB Vs k j → n₀ ≤ j ∧ j < w.heap.size ∧ vblock (.slice av L.length cv) ≠ some j := fun k j ⟨x, hx, he⟩ => by
    have hx := List.mem_of_mem_take hx
    obtain ⟨e, _, _, hp, h0', b', hb', hq⟩ := r1.mem x hx
    unfold vC at he
    rw [hb'] at he
    cases he
    obtain ⟨b2, o2, e2, hlt, _⟩ := hp.cells (i := 0) h0'.1
    rw [hb'] at e2; cases e2
    exact ⟨hq.1, hlt, hq.2⟩
  have hrl : ∀ k j, vblock (.slice av L.length cv) = some j → ¬ (Bk j ∨ rowsB Vs k j) := fun k j hj hs => hs.elim (hfr j (s1.block_lt hj).1) fun hr => (hbig k j hr).2.2 hj
  -- one round
  have hstep : ∀ k (hk : k < Vs.length) wr, BookK w0 w b c te E Bk Vs k wr → ∃ x : Sad.Told, (∀ j, j < 3 → ∃ g, av = some ⟨g, 0, none⟩ ∧ wr.cell? ⟨g, k * 3 + j, none⟩ = some ((entV x).getD j undef)) ∧ Calls Tryz.prog 16 #[bkp b, vC x.2.2] wr fun e w' => (∃ v, e = .returned v) ∧ BookK w0 w b c te E Bk Vs (k + 1) w' := by
    rintro k hk wr ⟨tp', P', Bk', hX, hsub, hch⟩
    obtain ⟨xs, hw⟩ := z1 Vs[k] (List.getElem_mem _)
    obtain ⟨bx, hbx⟩ := hrow Vs[k] (List.getElem_mem _)
    have hvb : vblock (vC Vs[k].2.2) = some bx := by unfold vC; rw [hbx]; rfl
    have hin : rowsB Vs (k + 1) bx := (rowsB_succ hk bx).2 (.inr hvb)
    have hbb := hbig (k + 1) bx hin
    have hnx := rowsB_next d1 hrow hk hvb
    have hnb : ¬ Bk' bx := fun hh => by
      rcases hsub bx hh with hh | hh | hh
      · exact hfr bx hbb.1 hh
      · exact hnx hh
      · have := hbb.2.1; omega
    have hwr : SliceN wr 0 68 2 (vC Vs[k].2.2) Vs[k].2.2.2.1 xs := (hw.chg hch fun j hj => by
      rw [hvb] at hj; cases hj
      exact fun hh => hh.elim (hfr bx hbb.1) hnx).mono (Nat.zero_le _)
    have hsr := s1.chg hch (hrl k)
    obtain ⟨g, cap, cur, he, _⟩ := hsr.2.resolve_left (by omega)
    refine ⟨Vs[k], fun j hj => ⟨g, ?_, ?_⟩, ?_⟩
    · simp only [Value.slice.injEq] at he; exact he.1
    · have := hsr.cell (g := g) (i := k * 3 + j) he (by omega)
      rw [this, flatE Vs k hk j hj]
    · obtain ⟨e1, hm1, hp1⟩ : ∃ e1 ∈ L, Vs[k].2.2.2.1 = e1.2.length := by
        obtain ⟨e1, hm1, hr1⟩ := r1.mem Vs[k] (List.getElem_mem _)
        exact ⟨e1, hm1, hr1.2.1.1.symm⟩
      have hsz := hL e1 hm1
      have hcount := hX.count
      have hfew := hX.few
      unfold vC at hwr hvb ⊢
      refine (pairs_any hX.head rfl rfl hX.rowP (fun e => hX.parts.1.1 b rfl e) (by omega) (by omega) _ _ _).mono ?_
      rintro e w' ⟨he', hkept⟩
      obtain ⟨⟨tp2, Bk2, hX2, hs2⟩, hc2⟩ := hX.keptP (by omega) hwr (fun j hj => by
        rw [hvb] at hj; cases hj
        exact ⟨hnb, Nat.le_trans h0 hbb.1⟩) (by omega) hkept
      refine ⟨he', tp2, _, Bk2, hX2, fun j hj => ?_, ?_⟩
      · rcases hs2 j hj with hh | hh | hh
        · rcases hsub j hh with hh | hh | hh
          · exact .inl hh
          · exact .inr (.inl ((rowsB_succ hk j).2 (.inl hh)))
          · exact .inr (.inr hh)
        · rw [hvb] at hh; cases hh; exact .inr (.inl hin)
        · exact .inr (.inr (Nat.le_trans hch.size hh))
      · refine (hch.mono fun j hj _ => hj.imp id fun hh => (rowsB_succ hk j).2 (.inl hh)).trans hc2 fun j hj hlt => ?_
        rcases hsub j hj with hh | hh | hh
        · exact .inl hh
        · exact .inr ((rowsB_succ hk j).2 (.inl hh))
        · omega
  -- the end
  have hend : ∀ wr, BookK w0 w b c te E Bk Vs Vs.length wr → Calls Tryz.prog 17 #[bkp b, .slice av L.length cv] wr fun e w' => (∃ u, e = .returned u) ∧ (∃ c' tp' te' P' E' Bk', BookX w0 w' b c' tp' te' P' E' Bk' ∧ c' = c + L.length + 1 ∧ ∀ k, Bk' k → Bk k ∨ n₀ ≤ k) ∧ Chg (fun k => Bk k ∨ n₀ ≤ k) w w' := by
    rintro wr ⟨tp', P', Bk', hX, hsub, hch⟩
    have hcount := hX.count
    have hfew := hX.few
    have hsr := (s1.chg hch (hrl Vs.length)).mono (Nat.zero_le _)
    have hlen' := hlen
    have hvs := fun k => s1.block_lt (k := k)
    have hLl : L.length ≤ 1000000 := by omega
    refine (keepEntry_any hX.head rfl rfl hX.rowE (fun e => hX.parts.1.2.1 b rfl e) (by omega) (by omega) _ _ _).mono ?_
    rintro e w' ⟨he', hkept⟩
    rw [hlen] at hsr
    have hfr2 : ∀ j, vblock (.slice av L.length cv) = some j → ¬ Bk' j ∧ w0.heap.size ≤ j := fun j hj => by
      have hj1 := hvs j hj
      refine ⟨fun hh => ?_, Nat.le_trans h0 hj1.1⟩
      rcases hsub j hh with hh | hh | hh
      · exact hfr j hj1.1 hh
      · exact (hbig _ j hh).2.2 hj
      · omega
    obtain ⟨⟨te2, Bk2, hX2, hs2⟩, hc2⟩ := hX.keptE (by omega) hsr hfr2 (by omega) hkept
    have hout : ∀ j, Bk' j → Bk j ∨ n₀ ≤ j := fun j hj => by
      rcases hsub j hj with hh | hh | hh
      · exact .inl hh
      · exact .inr (hbig _ j hh).1
      · exact .inr (Nat.le_trans hn0 hh)
    refine ⟨he', ⟨_, _, _, _, _, Bk2, hX2, by omega, fun j hj => ?_⟩, ?_⟩
    · rcases hs2 j hj with hh | hh | hh
      · exact hout j hh
      · exact .inr (hvs j hh).1
      · exact .inr (Nat.le_trans hn0 (Nat.le_trans hch.size hh))
    · exact (hch.mono fun j hj _ => hj.imp id fun hh => (hbig _ j hh).1).trans hc2 fun j hj _ => hout j hj
  have HStep := Lib.hid hstep
  have HEnd := Lib.hid hend
  have HLen := Lib.hid hlen
  have hN6 : n ≤ 1000000 := by omega
  have H0 := Lib.hid (show BookK w0 w b c te E Bk Vs 0 w from ⟨tp, P, Bk, h, fun j hj => .inl hj, Chg.refl _ _⟩)
  rw [← hn] at HEnd HLen hcv ⊢
  clear h hc hL hfr h0 hn0 hcm s1 r1 d1 z1 hlen hrow hbig hrl hstep hend hn
  go_enter Tryz.func5, Tryz.ntmps5
  go_wp2_with fail
  go_loopw [4] (fun i wr => ∃ k : Nat, k ≤ n ∧ i = .int .i64 k ∧ Hid (BookK w0 w b c te E Bk Vs k wr)) (fun i _ => n - (intOf i).toNat)
  case atStart => exact ⟨0, Nat.zero_le _, rfl, H0⟩
  case round =>
    obtain ⟨k, hk, rfl, hI⟩ := hrel
    by_cases hlt : k < n
    · obtain ⟨x, hx, hC⟩ := HStep.out k (by have := HLen.out; omega) wr hI.out
      obtain ⟨g, rfl, c2⟩ := hx 2 (by omega)
      obtain ⟨_, e, c0⟩ := hx 0 (by omega)
      cases e
      obtain ⟨_, e, c1⟩ := hx 1 (by omega)
      cases e
      have c2 : wr.cell? ⟨g, k * 3 + 2, none⟩ = some (vC x.2.2) := c2
      unfold vC at c2 hC
      have HC := Lib.hid hC
      have j1 : (k : Int) < (n : Int) := by omega
      clear hx hC c0 c1
      go_wp2_with fail
      refine HC.out.mono ?_
      rintro e w2 ⟨⟨u, rfl⟩, hB⟩
      have HN := Lib.hid hB
      clear hB c2
      go_wp2_with fail
      go_roundw
      case rel => exact ⟨k + 1, by omega, by go_num, HN⟩
      case measure => simp [intOf]; omega
    · obtain rfl : n = k := by omega
      have HE := Lib.hid (HEnd.out wr (by rw [HLen.out]; exact hI.out))
      clear hlt
      go_wp2_with fail
      refine HE.out.mono ?_
      rintro e w' ⟨⟨u, rfl⟩, h1⟩
      have HF := Lib.hid h1
      clear h1
      go_wp2_with fail
      go_end0
      exact ⟨⟨_, rfl⟩, HF.out⟩
end Go.Proofs.YtmaemgihhipllaaGreatDoor

/- StreamOwn: the book at first; how long a told entry's row may be. -/
namespace Go.Proofs.YtmaemgihhipllaaGreatDoor
set_option linter.unusedVariables false
set_option linter.unusedSimpArgs false
open Go.RowKit Sad
theorem stepP_small {M : Nat} {st : List Ent × (Nat × Nat)} {A : AskN} (hA : A.L.length ≤ M) (h : ∀ e ∈ st.1, e.2.length ≤ M) : ∀ e ∈ (stepP st A).1, e.2.length ≤ M := by
  unfold stepP addP
  split
  · exact fun e he => h e (List.mem_filter.1 he).1
  · split
    · exact h
    · split
      · exact fun e he => h e (List.mem_of_mem_drop he)
      · split
        · intro e he
          rcases List.mem_append.1 he with he | he
          · exact h e he
          · have : e = (A.id, A.L) := by simpa using he
            rw [this]; exact hA
        · exact h
theorem playP_small {M : Nat} {Q : List AskN} (hQ : ∀ A ∈ Q, A.L.length ≤ M) (k : Nat) : ∀ e ∈ (playP Q k).1, e.2.length ≤ M := by
  unfold playP
  have go : ∀ (R : List AskN) (st : List Ent × (Nat × Nat)), (∀ A ∈ R, A.L.length ≤ M) → (∀ e ∈ st.1, e.2.length ≤ M) → ∀ e ∈ (R.foldl stepP st).1, e.2.length ≤ M := by
    intro R
    induction R with
    | nil => exact fun st _ h => h
    | cons A R ih => exact fun st hR h => ih _ (fun B hB => hR B (by simp [hB])) (stepP_small (hR A (by simp)) h)
  exact go _ _ (fun A hA => hQ A (List.mem_of_mem_take hA)) (by simp)
theorem AskRow.small {w : World} {a : Option Addr} {n c : Nat} {Q : List AskN} (h : AskRow w a n c Q) : ∀ A ∈ Q, A.L.length ≤ 1048576 := fun A hA => by
  obtain ⟨i, hi, rfl⟩ := List.getElem_of_mem hA
  have h1 := h.1
  obtain ⟨b, o, _, hc⟩ := h.2.2.resolve_left (by omega)
  have := hc i hi
  rw [this.row.1]
  exact this.nle
/-- A new book. -/
theorem BookX.new {w w' : World} (hl : Laid w) (h : w' = w.alloc (.cells (bookX 0 nilV nilV) 35)) : BookX w w' w.heap.size 0 nilV nilV [] [] (fun k => k = w.heap.size) := by
  have hb : Below w.heap.size w w' := by rw [h]; exact (Below.refl _ _).alloc (Nat.le_refl _) _
  refine ⟨⟨hl, hb⟩, by rw [h]; exact heap_new _ _, SliceN.nil _ _ _ _, SliceN.nil _ _ _ _, fun k => ?_, ?_, fun k hk => by omega, rfl, by omega, by simp, by simp, by simp, by simp⟩
  · rw [mem_blocksX]
    simp [vblock, blocksV]
  · unfold blocksX
    simp [Off, vblock]
end Go.Proofs.YtmaemgihhipllaaGreatDoor

/- StreamOwn's walk and its row form. -/
namespace Go.Proofs.YtmaemgihhipllaaGreatDoor
set_option linter.unusedVariables false
set_option linter.unusedSimpArgs false
open Go.RowKit Sad
/-- The stream and the book while it is told. -/
structure OwnI (w0 w : World) (s : Nat) (F : Nat → Prop) (E : List Ent) (l : Nat × Nat) (b m : Nat) (Bk : Nat → Prop) : Prop where
  book : ∃ tp te P H, BookX w0 w b m tp te P H Bk
  stm : Stm w0 s F E l
theorem OwnI.bel {w0 w : World} {s : Nat} {F : Nat → Prop} {E : List Ent} {l : Nat × Nat} {b m : Nat} {Bk : Nat → Prop} (h : OwnI w0 w s F E l b m Bk) : Below w0.heap.size w0 w := by
  obtain ⟨tp, te, P, H, hB⟩ := h.book
  exact hB.base.bel
theorem OwnI.now {w0 w : World} {s : Nat} {F : Nat → Prop} {E : List Ent} {l : Nat × Nat} {b m : Nat} {Bk : Nat → Prop} (h : OwnI w0 w s F E l b m Bk) : Stm w s F E l := h.stm.below h.bel
theorem OwnI.below {w0 w w' : World} {s : Nat} {F : Nat → Prop} {E : List Ent} {l : Nat × Nat} {b m : Nat} {Bk : Nat → Prop} (h : OwnI w0 w s F E l b m Bk) (hb : Below w.heap.size w w') : OwnI w0 w' s F E l b m Bk := by
  obtain ⟨tp, te, P, H, hB⟩ := h.book
  exact ⟨⟨tp, te, P, H, hB.below hb⟩, h.stm⟩
theorem OwnI.range {w0 w : World} {s : Nat} {F : Nat → Prop} {E : List Ent} {l : Nat × Nat} {b m : Nat} {Bk : Nat → Prop} (h : OwnI w0 w s F E l b m Bk) (hn : E.length ≤ 200) :
    Calls Tryz.prog 6 #[ptrV s, .agg #[.int .u64 0, .int .u64 0], .agg #[.int .u64 18446744073709551615, .int .u64 18446744073709551615], .int .i64 1099511627776] w fun e w' => ∃ v, e = .returned v ∧ EntsOut w' w.heap.size v E ∧ OwnI w0 w' s F E l b m Bk ∧ (∀ k, Bk k → k < w.heap.size) ∧ w0.heap.size ≤ w.heap.size ∧ w.heap.size ≤ w'.heap.size ∧ Below w.heap.size w w' := by
  refine (range_full h.now hn).mono ?_
  rintro e w' ⟨v, rfl, o, b⟩
  obtain ⟨tp, te, P, H, hB⟩ := h.book
  exact ⟨v, rfl, o, h.below b, fun k hk => hB.lt hk, h.bel.size, b.size, b⟩
theorem OwnI.entries {w0 w : World} {s : Nat} {F : Nat → Prop} {E : List Ent} {l : Nat × Nat} {b m : Nat} {Bk : Nat → Prop} (h : OwnI w0 w s F E l b m Bk) (hn : E.length ≤ 200) (hm : m ≤ 1000) (hE : ∀ e ∈ E, e.2.length ≤ 1048576) {n₀ : Nat} {v : Value} (ho : EntsOut w n₀ v E) (hB : ∀ k, Bk k → k < n₀) (h0 : w0.heap.size ≤ n₀) (h1 : n₀ ≤ w.heap.size) :
    Calls Tryz.prog 5 #[bkp b, v] w fun e w' => (∃ u, e = .returned u) ∧ ∃ Bk', OwnI w0 w' s F E l b (m + E.length + 1) Bk' := by
  obtain ⟨tp, te, P, H, hX⟩ := h.book
  refine (hX.entries ho (by omega) (fun e he => Nat.le_trans (hE e he) (by decide)) (fun k hk hb => by have := hB k hb; omega) h0 h1).mono ?_
  rintro e w' ⟨he, ⟨c', tp', te', P', E', Bk', hX', rfl, _⟩, _⟩
  exact ⟨he, Bk', ⟨_, _, _, _, hX'⟩, h.stm⟩
set_option maxHeartbeats 6400000 in
set_option maxRecDepth 100000 in
theorem streamOwn_walk {w : World} (hl : Laid w) (a : Option Addr) (n c : Nat) (Q : List AskN) (h : AskRow w a n c Q) (hn : n ≤ 1048576) (hq : ∀ A ∈ Q, ∀ p ∈ A.L, p.1.size + p.2.size ≤ 1048576) :
    Calls Tryz.prog 3 #[.slice a n c] w fun e w' => e = .returned (.bool true) ∧ Below w.heap.size w w' := by
  have HP := Lib.hid (played_any h (by omega))
  have HV := Lib.hid (fun w' (hb : Below w.heap.size w w') => lives_any (hl.below hb))
  have HLn := Lib.hid (playP_len Q 200)
  have HSm := Lib.hid (playP_small (AskRow.small h) 200)
  have HL := Lib.hid hl
  clear hl h hn hq
  go_enter Tryz.func3, Tryz.ntmps3
  go_wp2_with fail
  refine HP.out.mono ?_
  rintro e w2 ⟨s, F, rfl, hS, hF, b2⟩
  obtain ⟨E, hE⟩ : ∃ E, (playP Q 200).1 = E := ⟨_, rfl⟩
  obtain ⟨l, hl⟩ : ∃ l, (playP Q 200).2 = l := ⟨_, rfl⟩
  rw [hE, hl] at hS
  have hln := HLn.out
  have hsm := HSm.out
  rw [hE] at hln hsm
  have HS := Lib.hid (And.intro hS (And.intro b2 (And.intro hln hsm)))
  obtain ⟨w3, hw3⟩ : ∃ w3, w3 = w2.alloc (.cells (bookX 0 nilV nilV) 35) := ⟨_, rfl⟩
  have HO3 := Lib.hid (show OwnI w2 w3 s F E l w2.heap.size 0 _ from ⟨⟨_, _, _, _, BookX.new (HL.out.below b2) hw3⟩, hS⟩)
  have HW3 := Lib.hid (show w3 = w2.alloc (.cells #[.int .i64 0, .slice none 0 0, .slice none 0 0, .slice none 0 0, .slice none 0 0, .slice none 0 0, .slice none 0 0, .slice none 0 0, .slice none 0 0, .slice none 0 0] 35) from hw3)
  clear hS hF b2 hE hl HP HLn HSm hln hsm hw3
  unfold ptrV at *
  go_wp2_with fail
  rw [← HW3.out]
  refine (top_any _).mono ?_
  rintro e w4 ⟨rfl, b4⟩
  have HO4 := Lib.hid (HO3.out.below b4)
  have hr := HO4.out.range HS.out.2.2.1
  unfold ptrV at hr
  have HR := Lib.hid hr
  clear b4 hr
  go_wp2_with fail
  refine HR.out.mono ?_
  rintro e w5 ⟨v, rfl, o5, i5, k5, z5, y5, _⟩
  obtain ⟨av, cv, rfl, _⟩ := o5.row
  have HE := Lib.hid (i5.entries HS.out.2.2.1 (by omega) HS.out.2.2.2 o5 k5 z5 y5)
  clear o5 i5 k5 z5 y5 HR
  go_wp2_with fail
  refine HE.out.mono ?_
  rintro e w6 ⟨⟨u, rfl⟩, Bk6, i6⟩
  have HO6 := Lib.hid i6
  clear i6 HE
  go_wp2_with fail
  refine (top_any _).mono ?_
  rintro e w7 ⟨rfl, b7⟩
  have HO7 := Lib.hid (HO6.out.below b7)
  have hr := HO7.out.range HS.out.2.2.1
  unfold ptrV at hr
  have HR := Lib.hid hr
  clear b7 hr
  go_wp2_with fail
  refine HR.out.mono ?_
  rintro e w8 ⟨v, rfl, o8, i8, k8, z8, y8, _⟩
  obtain ⟨av8, cv8, rfl, _⟩ := o8.row
  have HE := Lib.hid (i8.entries HS.out.2.2.1 (by have := HS.out.2.2.1; omega) HS.out.2.2.2 o8 k8 z8 y8)
  clear o8 i8 k8 z8 y8 HR
  go_wp2_with fail
  refine HE.out.mono ?_
  rintro e w9 ⟨⟨u, rfl⟩, Bk9, i9⟩
  have HO9 := Lib.hid i9
  clear i9 HE
  go_wp2_with fail
  refine (top_any _).mono ?_
  rintro e w10 ⟨rfl, b10⟩
  have HO10 := Lib.hid (HO9.out.below b10)
  have hr := HO10.out.range HS.out.2.2.1
  unfold ptrV at hr
  have HR := Lib.hid hr
  clear b10 hr
  go_wp2_with fail
  refine HR.out.mono ?_
  rintro e w11 ⟨v, rfl, o11, i11, k11, z11, y11, b11⟩
  obtain ⟨av11, cv11, rfl, _⟩ := o11.row
  obtain ⟨tp, te, P, H, hX⟩ := i11.book
  have HA := Lib.hid hX.apart_any
  have HO11 := Lib.hid (And.intro o11 (And.intro k11 (And.intro i11 (And.intro z11 hX.old))))
  clear o11 i11 k11 z11 y11 b11 HR hX
  go_wp2_with fail
  refine HA.out.mono ?_
  rintro e w12 ⟨rfl, c12⟩
  have HX12 := Lib.hid (show EntsOut w12 w10.heap.size (.slice av11 E.length cv11) E ∧ Below w2.heap.size w2 w12 from by
    refine ⟨HO11.out.1.chg c12 fun k hk hb => ?_, belowChg HO11.out.2.2.1.bel c12 HO11.out.2.2.1.bel.size fun k hk _ => HO11.out.2.2.2.2 k hk⟩
    have := HO11.out.2.1 k hb; omega)
  clear c12 HA
  go_wp2_with fail
  refine (top_any _).mono ?_
  rintro e w13 ⟨rfl, b13⟩
  have HX13 := Lib.hid (And.intro (HX12.out.1.below b13) (HX12.out.2.trans (b13.mono HX12.out.2.size)))
  have hr := range_full (HS.out.1.below HX13.out.2) HS.out.2.2.1
  unfold ptrV at hr
  have HR := Lib.hid hr
  clear b13 hr
  go_wp2_with fail
  refine HR.out.mono ?_
  rintro e w14 ⟨v, rfl, o14, b14⟩
  obtain ⟨av14, cv14, rfl, r14⟩ := o14.row
  obtain ⟨av', cv', e', r13⟩ := (HX13.out.1.below b14).row
  simp only [Value.slice.injEq] at e'
  obtain ⟨rfl, _, rfl⟩ := e'
  have HSame := Lib.hid (sameEntries r13 r14 (by have := HS.out.2.2.1; omega))
  have HB14 := Lib.hid (HX13.out.2.trans (b14.mono HX13.out.2.size))
  clear o14 b14 r14 r13 HR
  go_wp2_with fail
  refine HSame.out.mono ?_
  rintro e w15 ⟨r, rfl, hr, b15⟩
  obtain rfl : r = true := hr.2 (by trivial)
  have HB15 := Lib.hid (HS.out.2.1.trans ((HB14.out.trans (b15.mono HB14.out.size)).mono HS.out.2.1.size))
  clear hr b15 HSame
  go_wp2_with fail
  refine (HV.out _ HB15.out).mono ?_
  rintro e w16 ⟨rfl, b16⟩
  have HB16 := Lib.hid (HB15.out.trans (b16.mono HB15.out.size))
  clear b16
  go_wp2_with fail
  go_ret
  exact ⟨rfl, HB16.out⟩
end Go.Proofs.YtmaemgihhipllaaGreatDoor

/- what a row's list of variables gives (door seats): Laid; and a world that meets it. -/
namespace Go.Proofs.YtmaemgihhipllaaGreatDoor
set_option linter.unusedVariables false
set_option linter.unusedSimpArgs false
open Go.RowKit
namespace Lay
theorem star : "*" ++ "errors.errorString" = "*errors.errorString" := by decide
theorem rowErr (u : TypeId) (h : Tryz.prog.typeName? 3 u = some "*errors.errorString") : u = 195 :=
  typeName_ptr_named (nm := "errors.errorString") (by rw [star]; kernel_rfl) (by kernel_rfl) (by decide) u (by rw [star]; exact h)
theorem laid_of {W : World} (h : laidMetH Tryz.prog Rows.streamOwnRow.laid W) (hs : W.ShapedOpen Tryz.prog) : Laid W := by
  have h0 : laidMet Tryz.prog Rows.streamOwnRow.laid W := h
  have h3 : laidMet Tryz.prog [("internal/strconv.uint64pow10", Rows.laid_internal_strconv_uint64pow10), ("strconv.ErrRange", Rows.laid_strconv_ErrRange), ("strconv.ErrSyntax", Rows.laid_strconv_ErrSyntax)] W := h0.tail.tail
  refine { tab := Lib.tabIs_of_head (n := 20) (g := 1) (by kernel_rfl) (by kernel_rfl) Tryz.underlying182 Tryz.underlying39 (by kernel_rfl) (by kernel_rfl) h3, syn := ?_, rng := ?_
           max := Tryz.laysM145.s1_3 W hs
         }
  · obtain ⟨a, _, hv, _⟩ := laid_sentinel (g := 2) h3.tail.tail (by kernel_rfl) (by kernel_rfl) Tryz.underlying162 rowErr Tryz.underlying195 Tryz.underlying197 rfl rfl Tryz.underlying9 (by kernel_rfl) (by kernel_rfl)
    exact ⟨_, _, hv⟩
  · obtain ⟨a, _, hv, _⟩ := laid_sentinel (g := 3) h3.tail (by kernel_rfl) (by kernel_rfl) Tryz.underlying162 rowErr Tryz.underlying195 Tryz.underlying197 rfl rfl Tryz.underlying9 (by kernel_rfl) (by kernel_rfl)
    exact ⟨_, _, hv⟩
/-- So many blocks has the settled world. -/
noncomputable def low : Nat := (World.holding Tryz.prog default ⟨#[], #[], []⟩).heap.size
abbrev synS : ByteArray := { data := #[105, 110, 118, 97, 108, 105, 100, 32, 115, 121, 110, 116, 97, 120] }
abbrev rngS : ByteArray := { data := #[118, 97, 108, 117, 101, 32, 111, 117, 116, 32, 111, 102, 32, 114, 97, 110, 103, 101] }
def lits : List (DataW Unit) → Array Value
  | [] => #[]
  | .lit (.int k n) :: l => #[.int k n] ++ lits l
  | _ :: l => lits l
def table : DataW Unit → Array Value
  | .agg l => lits l
  | _ => #[]
def into (cs : Array Value) : Obj → Obj
  | .cells _ t frozen => .cells cs t frozen
  | o => o
noncomputable def laidWorld (os : Os) : World :=
  let w0 := World.holding Tryz.prog os ⟨#[.cells #[.string synS] 197, .cells #[.string rngS] 197], #[], []⟩
  { w0 with heap := ((((w0.heap.modify 1 (into (table Rows.laid_internal_strconv_uint64pow10))).modify 4 (into (table Rows.laid_math_bits_deBruijn32tab))).modify 5 (into (table Rows.laid_math_bits_deBruijn64tab))).modify 2 (into #[.iface 195 (.pointer (some ⟨low, 0, none⟩))])).modify 3 (into #[.iface 195 (.pointer (some ⟨low + 1, 0, none⟩))]) }
theorem laid_met (os : Os) (args : Array Value) : laidMet Tryz.prog Rows.streamOwnRow.laid ((laidWorld os).forCall (fun _ _ => 0) ⟨#[], args, []⟩).memory :=
  laidMet_of_run' 8 (by kernel_rfl) (by kernel_rfl)
end Lay
end Go.Proofs.YtmaemgihhipllaaGreatDoor

/- opening a slice of asks that came in. -/
namespace Go.Proofs.YtmaemgihhipllaaGreatDoor
set_option linter.unusedVariables false
set_option linter.unusedSimpArgs false
open Go.RowKit Go.ChangeShapes Go.WideShapes Go.Deep Sad
section
variable {H : Type} {enc : TypeId × Value → H} {w : World} {base : Nat} {spare : Nat → Bool} {held : Bool} {fuel : Nat}
theorem bulk_part {d : DataW H} {l : List (DataW H)} (h : d ∈ l) : Rows.uptoBulk d ≤ Rows.uptoBulkAll l := by
  induction l with
  | nil => cases h
  | cons x r ih =>
    simp only [Rows.uptoBulkAll]
    rcases List.mem_cons.1 h with e | e
    · subst e; omega
    · have := ih e; omega
theorem bulk_one (d : DataW H) : 1 ≤ Rows.uptoBulk d := by
  cases d with
  | lit l => cases l <;> simp [Rows.uptoBulk]
  | nil => simp [Rows.uptoBulk]
  | ptr d => simp [Rows.uptoBulk]
  | slice elems spare => simp [Rows.uptoBulk]
  | agg parts => simp [Rows.uptoBulk]
  | iface t d => simp [Rows.uptoBulk]
  | map entries => simp [Rows.uptoBulk]
  | held h => simp [Rows.uptoBulk]
theorem bulk_len (l : List (DataW H)) : l.length ≤ Rows.uptoBulkAll l := by
  induction l with
  | nil => simp [Rows.uptoBulkAll]
  | cons x r ih => have := bulk_one x; simp only [Rows.uptoBulkAll, List.length_cons]; omega
/-- A slice of pairs. -/
theorem open_pairs {v : Value} {x : DataW H × List MemPlace} (h : DataW.trod enc Tryz.prog w base spare held fuel 48 [v] = some x) :
    ∃ a n c L, v = .slice a n c ∧ PairRow w a n c L ∧ n ≤ Rows.uptoBulk x.1 ∧ ∀ p ∈ L, p.1.size + p.2.size ≤ Rows.uptoBulk x.1 := by
  rcases open_slice_pairs Tryz.underlying48 Tryz.underlying68 (by kernel_rfl) rfl rfl (by kernel_rfl) (by kernel_rfl) h with ⟨hcs, _⟩ | ⟨a, l, c, m, n, V0, V1, D0, D1, P0, P1, hcs, _, hl, hm, hmm, hx, hV⟩
  · simp only [List.cons.injEq, and_true] at hcs
    subst hcs
    exact ⟨none, 0, 0, [], rfl, ⟨rfl, Nat.le_refl _, .inl rfl⟩, Nat.zero_le _, by simp⟩
  · simp only [List.cons.injEq, and_true] at hcs
    subst hcs
    have hle : l ≤ m := by rw [hmm]; split <;> omega
    have each : ∀ i, i < m → ∃ s : ByteArray × ByteArray, (V0 i = .string s.1 ∧ V1 i = .string s.2) ∧ D0 i = .lit (.string s.1.data.toList) ∧ D1 i = .lit (.string s.2.data.toList) := fun i hi => by
      obtain ⟨_, _, g0, g1⟩ := hV i hi
      obtain ⟨s0, e0, d0, _⟩ := DataW.trod_string Tryz.underlying9 g0
      obtain ⟨s1, e1, d1, _⟩ := DataW.trod_string Tryz.underlying9 g1
      simp only [List.cons.injEq, and_true] at e0 e1
      simp only [Prod.mk.injEq] at d0 d1
      exact ⟨(s0, s1), ⟨e0, e1⟩, d0.1, d1.1⟩
    obtain ⟨S, hS⟩ := choose_lt each
    have hb : ∀ i, i < l → (S i).1.size + (S i).2.size ≤ Rows.uptoBulk x.1 := fun i hi => by
      rw [hx]
      have h1 : (DataW.agg [D0 i, D1 i] : DataW H) ∈ (List.range l).map fun i => DataW.agg [D0 i, D1 i] := List.mem_map.2 ⟨i, List.mem_range.2 hi, rfl⟩
      have h2 := bulk_part h1
      simp only [Rows.uptoBulk]
      simp only [Rows.uptoBulk, Rows.uptoBulkAll, (hS i (by omega)).2.1, (hS i (by omega)).2.2] at h2
      have e0 : (S i).1.data.toList.length = (S i).1.size := by rw [Array.length_toList]; rfl
      have e1 : (S i).2.data.toList.length = (S i).2.size := by rw [Array.length_toList]; rfl
      omega
    refine ⟨_, _, _, (List.range l).map S, rfl, ⟨by simp, hl, ?_⟩, ?_, fun p hp => ?_⟩
    · rcases Nat.eq_zero_or_pos l with h0 | h0
      · exact .inl h0
      · have hsp : ∃ b o, a = ⟨b, o, none⟩ := by
          obtain ⟨_, b, o, hx, _⟩ := argRow_of (w := w) (x := a) (len := 1) (cap := 1) (f := fun _ => V0 0) (Nat.le_refl _) (fun i hi => by
            have : i = 0 := by omega
            subst this
            simpa using (hV 0 (by omega)).1) |>.imp id (fun h => h.resolve_left (by omega))
          exact ⟨b, o, Option.some.inj hx⟩
        obtain ⟨b, o, rfl⟩ := hsp
        refine .inr ⟨b, o, rfl, fun i hi => ?_⟩
        obtain ⟨g0, g1, _⟩ := hV i (by omega)
        rw [add_plain] at g0 g1
        have hSi := (hS i (by omega)).1
        rw [g0, show o + i * 2 + 1 = o + (i * 2 + 1) by omega, g1, hSi.1, hSi.2]
        simp [List.getD, hi]
    · rw [hx]
      simp only [Rows.uptoBulk]
      have := bulk_len (H := H) ((List.range l).map fun i => DataW.agg [D0 i, D1 i])
      rw [List.length_map, List.length_range] at this
      omega
    · obtain ⟨i, hi, rfl⟩ := List.mem_map.1 hp
      exact hb i (List.mem_range.1 hi)
theorem open_u64 {cs : List Value} {x : DataW H × List MemPlace} (h : DataW.trod enc Tryz.prog w base spare held fuel 39 cs = some x) : ∃ n : Nat, cs = [.int .u64 n] ∧ n < 18446744073709551616 := by
  obtain ⟨n, rfl, _, hw⟩ := DataW.trod_int Tryz.underlying39 h
  have hx : 0 ≤ n ∧ n ≤ 18446744073709551615 := by simpa [Lit.wf, IntKind.min, IntKind.max, IntKind.signed, IntKind.bits] using hw
  exact ⟨n.toNat, by rw [show ((n.toNat : Nat) : Int) = n by omega], by omega⟩
theorem cells_split {cs : List Value} {k : Nat} (h : cs.length = k) {v : Value} {rest : List Value} (h1 : cs.take 1 = [v]) (h2 : cs.drop 1 = rest) : cs = v :: rest := by
  rw [← List.take_append_drop 1 cs, h1, h2]; rfl
theorem len2 {α : Type} {l : List α} (h : l.length = 2) : ∃ a b, l = [a, b] := by
  match l, h with
  | [a, b], _ => exact ⟨a, b, rfl⟩
theorem len4 {α : Type} {l : List α} (h : l.length = 4) : ∃ a b c d, l = [a, b, c, d] := by
  match l, h with
  | [a, b, c, d], _ => exact ⟨a, b, c, d, rfl⟩
theorem len7 {α : Type} {l : List α} (h : l.length = 7) : ∃ a b c d e f g, l = [a, b, c, d, e, f, g] := by
  match l, h with
  | [a, b, c, d, e, f, g], _ => exact ⟨a, b, c, d, e, f, g, rfl⟩
/-- An identifier. -/
theorem open_id {cs : List Value} {x : DataW H × List MemPlace} (h : DataW.trod enc Tryz.prog w base spare held fuel 41 cs = some x) : ∃ m q : Nat, cs = [.int .u64 m, .int .u64 q] ∧ m < 18446744073709551616 ∧ q < 18446744073709551616 := by
  obtain ⟨y0, y1, n, _, hl, h0, h1⟩ := trod_struct2 Tryz.underlying41 h
  have hC : Tryz.prog.cellsOf 41 = 2 := by kernel_rfl
  have hC1 : Tryz.prog.cellsOf 39 = 1 := by kernel_rfl
  rw [hC] at hl
  obtain ⟨a, b, rfl⟩ := len2 hl
  obtain ⟨m, e0, hm⟩ := open_u64 h0
  obtain ⟨q, e1, hq⟩ := open_u64 h1
  dsimp only at e0 e1
  rw [hC1] at e0 e1
  simp only [List.drop_zero, List.take_succ_cons, List.take_zero, List.drop_succ_cons, List.cons.injEq, and_true] at e0 e1
  exact ⟨m, q, by rw [e0, e1], hm, hq⟩
/-- An ask. -/
theorem open_ask {cs : List Value} {x : DataW H × List MemPlace} (h : DataW.trod enc Tryz.prog w base spare held fuel 52 cs = some x) (hb : Rows.uptoBulk x.1 ≤ 1048576) :
    ∃ A : AskN, cs = [.int .u8 A.k, .int .u64 A.id.1, .int .u64 A.id.2, .slice A.a A.n A.c, .int .u64 A.to.1, .int .u64 A.to.2, .int .i64 A.N] ∧ PairRow w A.a A.n A.c A.L ∧ A.n ≤ 1048576 ∧ (∀ p ∈ A.L, p.1.size + p.2.size ≤ 1048576) ∧ (0 ≤ A.k ∧ A.k ≤ 255) ∧ (A.id.1 < 18446744073709551616 ∧ A.id.2 < 18446744073709551616) ∧ (A.to.1 < 18446744073709551616 ∧ A.to.2 < 18446744073709551616) ∧ (-9223372036854775808 ≤ A.N ∧ A.N ≤ 9223372036854775807) := by
  obtain ⟨xs, n, _, hx, hl, hlen, hf⟩ := DataW.trod_struct Tryz.underlying52 h
  have hC : Tryz.prog.cellsOf 52 = 7 := by kernel_rfl
  have hCe : Tryz.prog.cellsOf 50 = 3 := by kernel_rfl
  have hCi : Tryz.prog.cellsOf 41 = 2 := by kernel_rfl
  have hCk : Tryz.prog.cellsOf 47 = 1 := by kernel_rfl
  have hCn : Tryz.prog.cellsOf 3 = 1 := by kernel_rfl
  have hCp : Tryz.prog.cellsOf 48 = 1 := by kernel_rfl
  rw [hC] at hl
  obtain ⟨c0, c1, c2, c3, c4, c5, c6, rfl⟩ := len7 hl
  obtain ⟨y0, y1, y2, y3, rfl⟩ := len4 hlen
  have g0 : DataW.trod enc Tryz.prog w base spare held n 47 (([c0, c1, c2, c3, c4, c5, c6].drop 0).take (Tryz.prog.cellsOf 47)) = some y0 := hf 0 _ rfl
  have g1 : DataW.trod enc Tryz.prog w base spare held n 50 (([c0, c1, c2, c3, c4, c5, c6].drop 1).take (Tryz.prog.cellsOf 50)) = some y1 := hf 1 _ rfl
  have g2 : DataW.trod enc Tryz.prog w base spare held n 41 (([c0, c1, c2, c3, c4, c5, c6].drop 4).take (Tryz.prog.cellsOf 41)) = some y2 := hf 2 _ rfl
  have g3 : DataW.trod enc Tryz.prog w base spare held n 3 (([c0, c1, c2, c3, c4, c5, c6].drop 6).take (Tryz.prog.cellsOf 3)) = some y3 := hf 3 _ rfl
  rw [hCk] at g0
  rw [hCe] at g1
  rw [hCi] at g2
  rw [hCn] at g3
  simp only [List.drop_zero, List.take_succ_cons, List.take_zero, List.drop_succ_cons, List.getElem?_cons_zero, List.getElem?_cons_succ] at g0 g1 g2 g3
  obtain ⟨k, e0, _, hk⟩ := DataW.trod_int Tryz.underlying47 g0
  obtain ⟨tm, tq, e2, htm, htq⟩ := open_id g2
  obtain ⟨N, e3, _, hN⟩ := DataW.trod_int Tryz.underlying3 g3
  obtain ⟨z0, z1, n', hy1, hl1, h0', h1'⟩ := trod_struct2 Tryz.underlying50 g1
  have h0 : DataW.trod enc Tryz.prog w base spare held n' 41 (([c1, c2, c3].drop 0).take (Tryz.prog.cellsOf 41)) = some z0 := h0'
  have h1 : DataW.trod enc Tryz.prog w base spare held n' 48 (([c1, c2, c3].drop 2).take (Tryz.prog.cellsOf 48)) = some z1 := h1'
  rw [hCi] at h0
  rw [hCp] at h1
  simp only [List.drop_zero, List.take_succ_cons, List.take_zero, List.drop_succ_cons] at h0 h1
  obtain ⟨m, q, e1, hm, hq⟩ := open_id h0
  obtain ⟨a, pn, pc, L, ep, hrow, hpn, hpl⟩ := open_pairs h1
  simp only [List.cons.injEq, and_true] at e0 e1 e2 e3
  have hbz : Rows.uptoBulk z1.1 ≤ 1048576 := by
    rw [hx] at hb
    simp only [List.map_cons, List.map_nil, Rows.uptoBulk, Rows.uptoBulkAll] at hb
    have : Rows.uptoBulk y1.1 = Rows.uptoBulkAll [z0.1, z1.1] + 1 := by rw [hy1]; simp only [Rows.uptoBulk]
    simp only [Rows.uptoBulkAll] at this
    omega
  have hk' : 0 ≤ k ∧ k ≤ 255 := by simpa [Lit.wf, IntKind.min, IntKind.max, IntKind.signed, IntKind.bits] using hk
  have hN' : -9223372036854775808 ≤ N ∧ N ≤ 9223372036854775807 := by simpa [Lit.wf, IntKind.min, IntKind.max, IntKind.signed, IntKind.bits] using hN
  refine ⟨⟨k, (m, q), a, pn, pc, L, (tm, tq), N⟩, by rw [e0, e1.1, e1.2, e2.1, e2.2, e3, ep], hrow, by dsimp only; omega, fun p hp => Nat.le_trans (hpl p hp) hbz, hk', ⟨hm, hq⟩, ⟨htm, htq⟩, hN'⟩
/-- A slice of asks that came in. -/
theorem asks_arg {a : Option Addr} {len cap : Nat} {d : DataW H} {ps : List MemPlace} (h : DataW.Trod enc Tryz.prog w base spare held 22 (.slice a len cap) d ps) (hb : Rows.uptoBulk d ≤ 1048576) :
    ∃ Q : List AskN, AskRow w a len cap Q ∧ len ≤ 1048576 ∧ ∀ A ∈ Q, ∀ p ∈ A.L, p.1.size + p.2.size ≤ 1048576 := by
  obtain ⟨fuel, hf⟩ := h
  have hC : Tryz.prog.cellsOf 52 = 7 := by kernel_rfl
  rcases open_slice Tryz.underlying22 hf with ⟨hcs, _⟩ | ⟨x, l, c, m, n, D, Pl, hcs, _, hl, hm, hmm, hd, hi⟩
  · simp [Value.cells] at hcs
    obtain ⟨rfl, rfl, rfl⟩ := hcs
    exact ⟨[], ⟨rfl, Nat.le_refl _, .inl rfl⟩, Nat.zero_le _, by simp⟩
  · simp [Value.cells] at hcs
    obtain ⟨rfl, rfl, rfl⟩ := hcs
    have hd1 : d = .slice ((List.range len).map D) ((List.range (m - len)).map fun j => D (len + j)) := (Prod.mk.inj hd).1
    rw [hd1] at hb
    simp only [Rows.uptoBulk] at hb
    have hle : len ≤ m := by rw [hmm]; split <;> omega
    have hlen := bulk_len (H := H) ((List.range len).map D)
    rw [List.length_map, List.length_range] at hlen
    have each : ∀ i, i < len → ∃ A : AskN, (∀ j, j < 7 → w.cell? ((x.add (i * 7)).add j) = [.int .u8 A.k, .int .u64 A.id.1, .int .u64 A.id.2, .slice A.a A.n A.c, .int .u64 A.to.1, .int .u64 A.to.2, .int .i64 A.N][j]?) ∧ PairRow w A.a A.n A.c A.L ∧ A.n ≤ 1048576 ∧ (∀ p ∈ A.L, p.1.size + p.2.size ≤ 1048576) ∧ (0 ≤ A.k ∧ A.k ≤ 255) ∧ (A.id.1 < 18446744073709551616 ∧ A.id.2 < 18446744073709551616) ∧ (A.to.1 < 18446744073709551616 ∧ A.to.2 < 18446744073709551616) ∧ (-9223372036854775808 ≤ A.N ∧ A.N ≤ 9223372036854775807) := fun i hii => by
      obtain ⟨cs', h1, h2⟩ := hi i (by omega)
      rw [hC] at h1
      obtain ⟨_, _, h3⟩ := World.cells?_some h1
      obtain ⟨A, rfl, hA⟩ := open_ask h2 (by
        have h4 : D i ∈ (List.range len).map D := List.mem_map.2 ⟨i, List.mem_range.2 hii, rfl⟩
        have := bulk_part h4
        show Rows.uptoBulk (D i) ≤ _
        omega)
      exact ⟨A, h3, hA⟩
    haveI : Inhabited AskN := ⟨⟨0, (0, 0), none, 0, 0, [], (0, 0), 0⟩⟩
    obtain ⟨A, hA⟩ := choose_lt each
    refine ⟨(List.range len).map A, ⟨by simp, hl, ?_⟩, by omega, fun B hB => ?_⟩
    · rcases Nat.eq_zero_or_pos len with h0 | h0
      · exact .inl h0
      · have hsp : ∃ b o, x = ⟨b, o, none⟩ := by
          obtain ⟨_, b, o, hx, _⟩ := argRow_of (w := w) (x := x) (len := 1) (cap := 1) (f := fun _ => .int .u8 (A 0).k) (Nat.le_refl _) (fun i hi => by
            have : i = 0 := by omega
            subst this
            have := (hA 0 h0).1 0 (by omega)
            rw [Go.Deep.add_add] at this
            simpa using this) |>.imp id (fun h => h.resolve_left (by omega))
          exact ⟨b, o, Option.some.inj hx⟩
        obtain ⟨b, o, rfl⟩ := hsp
        refine .inr ⟨b, o, rfl, fun i hi => ?_⟩
        have hi' : i < len := by simpa using hi
        obtain ⟨hc, hr, hn, _, hk, hid, hto, hN⟩ := hA i hi'
        have g : ∀ j, j < 7 → w.cell? ⟨b, o + i * 7 + j, none⟩ = [.int .u8 (A i).k, .int .u64 (A i).id.1, .int .u64 (A i).id.2, .slice (A i).a (A i).n (A i).c, .int .u64 (A i).to.1, .int .u64 (A i).to.2, .int .i64 (A i).N][j]? := fun j hj => by
          have := hc j hj
          rw [add_plain, add_plain] at this
          exact this
        simp only [List.getElem_map, List.getElem_range]
        exact ⟨g 0 (by omega), g 1 (by omega), g 2 (by omega), g 3 (by omega), g 4 (by omega), g 5 (by omega), g 6 (by omega), hr, by omega, hk, hid, hto, hN⟩
    · obtain ⟨i, hi, rfl⟩ := List.mem_map.1 hB
      exact (hA i (List.mem_range.1 hi)).2.2.2.1
end
end Go.Proofs.YtmaemgihhipllaaGreatDoor

/- The row of the law StreamOwn, and its card: for every input of at most 1048576 values and letters the Go function returns true and its arguments read as before, out of the walk streamOwn_walk. The library's variables that the row lists hold what the program's text lays (the card's tie, given). -/
namespace Go.Proofs.YtmaemgihhipllaaGreatDoor.streamOwnRow
open Go.ChangeShapes Go.WideShapes Go.ChangeAt Go.RowKit
open Go.ChangeMaps (open_string shut_string)
set_option linter.unusedVariables false
set_option linter.unusedSimpArgs false
theorem own : ownKnob Tryz.prog.godebug = none := by kernel_rfl
theorem laidOut : laidOutB Tryz.prog = true := by kernel_rfl
theorem bulk {H : Type} {l : List (DataW H)} (hk : Rows.uptoSmall H l = true) : Rows.uptoBulkAll l ≤ 1048576 := of_decide_eq_true hk
theorem reads (os : Os) {H : Type} (enc : TypeId × Value → H) : ∃ places, DataW.whole enc Tryz.prog ((Lay.laidWorld os).forCall (fun _ _ => 0) ⟨#[], #[.slice none 0 0], []⟩).memory Tryz.f3.params.toList Rows.streamOwnSpec.vars false (#[.slice none 0 0] : Array Value).toList 8 = some ([.nil], [], places) :=
  ⟨[], by kernel_rfl⟩
set_option maxRecDepth 100000 in
theorem contract (H : Type) (enc : TypeId × Value → H) (W : World) (base : Nat) (args : Array Value) (ds gs : List (DataW H)) (before : List MemPlace)
    (hval0 : ∀ (j : Nat) t v, Tryz.f3.params[j]? = some t → args[j]? = some v → Value.okWide Tryz.prog W .any base t v)
    (hW : DataW.Whole enc Tryz.prog Tryz.f3.params.toList Rows.streamOwnSpec.vars false W args.toList ds gs before) (hk0 : Rows.uptoSmall H (ds ++ gs) = true)
    (hsz0 : (DataW.weightsEach Tryz.prog (Tryz.f3.params.toList ++ Rows.streamOwnSpec.plain.varTypes Tryz.prog) (ds ++ gs)).all (· ≤ reachBytes) = true) (hL : Laid W) :
    Calls Tryz.prog 3 args W fun e W' => ∃ v, e = .returned v ∧ Rows.streamOwnSpec.post enc Tryz.prog Tryz.f3 false true false false W args v W' := by
  have hsz := hsz0
  have hk := bulk hk0
  have hval : ∀ (j : Nat) t v, Tryz.f3.params[j]? = some t → args[j]? = some v → Value.okWide Tryz.prog W .any base t v := hval0
  have hW' := hW
  obtain ⟨p, q, hA0, hV, rfl, hfz, hnd⟩ := hW
  have hA : DataW.TrodAll enc Tryz.prog W 0 (fun _ => true) true Tryz.f3.params.toList args.toList ds p := hA0
  rw [Tryz.params3] at hA hval hsz
  obtain ⟨v0, vs0, d0, ds0, p0, q0, hargs, rfl, rfl, h0, r0⟩ := trodAll_cons hA
  obtain ⟨rfl, rfl, rfl⟩ := trodAll_nil r0
  obtain rfl : args = #[v0] := by cases args; simp_all
  obtain ⟨rfl, rfl⟩ := trodVars_none hV
  have k0 := h0
  have lt0 : ∀ x ∈ p0, x.block < W.heap.size := by obtain ⟨m, hm⟩ := k0; exact DataW.trod_lt m _ _ _ hm
  obtain ⟨a0, len0, cap0, rfl⟩ := okWide_slice Tryz.underlying22 (hval 0 22 v0 rfl rfl)
  have b0 : Rows.uptoBulk d0 ≤ 1048576 := by
    have := hk
    simp only [List.cons_append, List.nil_append, List.append_nil, Rows.uptoBulkAll] at this
    omega
  obtain ⟨z0, w0, l0, y0⟩ := asks_arg h0 b0
  simp only [List.cons_append, List.nil_append, List.append_nil, Rows.uptoBulkAll, Rows.uptoBulk] at hk
  clear hA0 hval0 hsz0 hsz
  refine (streamOwn_walk hL a0 len0 cap0 z0 w0 l0 y0).mono fun e W' ⟨he, bel⟩ => ?_
  subst he
  exact ⟨_, rfl, _, _, _, [], _, [], hW', trodAll_mk1 (shut_bool Tryz.underlying4 _), (trodAll_cons_mk (Below.trod laidOut (by kernel_rfl) (of_decide_eq_true (by kernel_rfl)) k0 bel lt0) trodAll_mk0), rfl, bel.frame _, fun h => by cases h⟩
set_option maxRecDepth 100000 in
theorem liftedUpto (os : Os) (started : os.Started) (H : Type) (enc : TypeId × Value → H) (F : Stop.Interp) :
    ReturnsInHanded {} Tryz.checked os 3 .any ((Rows.OpenSpec.upto Rows.streamOwnSpec).preRow enc Tryz.prog Tryz.f3 Rows.streamOwnUptoRow.domain false Rows.streamOwnUptoRow.laid) (((Rows.OpenSpec.upto Rows.streamOwnSpec).at F).post enc Tryz.prog Tryz.f3 false true false false) := by
  obtain ⟨places, hx⟩ := reads os enc
  refine returnsInHanded_of_row (C := Tryz.checked) (s := (Rows.OpenSpec.upto Rows.streamOwnSpec)) own started (by kernel_rfl) Tryz.func3
    (witness_row_at (enc := enc) (C := Tryz.checked) false (Lay.laidWorld os) #[.slice none 0 0] rfl (by kernel_rfl) (by kernel_rfl) (by kernel_rfl)
      (OpenSpec.preRow_of_cond 8 hx (by kernel_rfl) (fun k hk => by cases hk; kernel_rfl) (by kernel_rfl) (Lay.laid_met os _))) ?_
  intro W base args ds gs before hval hW _ hcond hsz hL hS _
  exact contract H enc W base args ds gs before hval hW (hcond _ rfl) hsz (Lay.laid_of hL hS)
theorem saidUpto : Rows.StreamOwnUptoSaid :=
  OpenClaim.holds_of_cond 3 Tryz.f3 rfl rfl rfl rfl rfl rfl rfl ⟨rfl, rfl, rfl, rfl, rfl⟩ rfl rfl rfl rfl rfl (by kernel_rfl) Tryz.func3 (by kernel_rfl)
    (of_decide_eq_true (by kernel_rfl)) (by unfold Func.isWrapper; first | (rw [if_pos (by decide +kernel)]; kernel_rfl) | (rw [if_neg (by decide +kernel)]; exact ⟨rfl, rfl⟩))
    (fun os started H enc _ F => by rw [OpenClaim.pre_eq_preRow]; exact liftedUpto os started H enc F)
theorem plain (f : FuncId) (fn : Func) (hf : Tryz.pinned.checked.prog.funcNamed "stillroom/stillroomlaw16.StreamOwn" = some f) (hfn : Tryz.pinned.checked.prog.funcs[f]? = some fn) :
    true = Tryz.pinned.checked.prog.looks [] ∧ ∀ (j : Nat) t, fn.params[j]? = some t → Tryz.pinned.checked.prog.wantsStandIn t = false := by
  obtain rfl : f = 3 := Option.some.inj ((show Tryz.prog.funcNamed "stillroom/stillroomlaw16.StreamOwn" = some 3 by kernel_rfl).symm.trans hf) |>.symm
  obtain rfl : fn = Tryz.f3 := (Option.some.inj (Tryz.func3.symm.trans hfn)).symm
  refine ⟨by kernel_rfl, fun j t ht => ?_⟩
  rw [Tryz.params3] at ht
  have ht := Array.mem_of_getElem? ht
  have all : ∀ t ∈ (#[22] : Array TypeId), Tryz.prog.wantsStandIn t = false := by
    intro t ht
    simp only [List.mem_toArray, List.mem_cons, List.not_mem_nil, or_false] at ht
    subst ht; kernel_rfl
  exact all t ht
end Go.Proofs.YtmaemgihhipllaaGreatDoor.streamOwnRow
namespace Go.Proofs.YtmaemgihhipllaaGreatDoor
open Go.Proofs.YtmaemgihhipllaaGreatDoor.streamOwnRow in
/-- The law's card. -/
theorem streamOwn_holds : Rows.StreamOwnUptoCardSaid :=
  Claim7.holds_tied_plain_at .later [] _ _ _ _ saidUpto (fun _ h => by cases h) (by kernel_rfl) (fun _ h => by cases h) streamOwnUpto_row_tie rfl ⟨rfl, rfl⟩ (by kernel_rfl) rfl plain (by kernel_rfl)
end Go.Proofs.YtmaemgihhipllaaGreatDoor
