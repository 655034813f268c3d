/- Lemmas and walks for StreamOwn, part 1 of 5: the texts Base, Slc, Args, Loc, Str, Reg, Search, Com, Sln, Shelf, Dec0, Bk0, Bk1, Bk2, Bk3, Bk4, Bk5, Bk6, Bk7, Bk8, Bk9, Bkm. -/
import Derived.WalkKit
import Derived.Deep.Draws
import Derived.Laws.AppendOwn
import Derived.Laws.CopyRow
import Derived.IntWalk
import Derived.Laws.MakeOwn
import Derived.OpenShut
import Derived.Deep.Slices
import Derived.Deep.SlicePairs
import Derived.SliceStrings
import Derived.ChangeArms
import Derived.ChangeSlices
import Derived.Laws.Cover2
import Derived.Laws.BytesString
import Derived.Still
import Derived.Deep.Quiet
import Derived.BigQuiet
import Derived.Test.YtmaemgihhipllaaGreatDoorRows
import Derived.WalkSpells
import Derived.WalkLawsBesides
import Derived.Lib.Hide
import Derived.Deep.QuietTactic
import Derived.Shelf.Strconv.Itoa0
import Derived.Shelf.Strconv.Itoa1
import Derived.Shelf.LaysM
import Derived.Shelf.Strconv.Itoa2
import Derived.Shelf.Strconv.Itoa3
import Derived.Shelf.Strconv.Clone
import Derived.Shelf.Strconv.SyntaxError
import Derived.Shelf.LaysC
import Derived.Shelf.Strconv.ToError
import Derived.Shelf.Strconv.Lower
import Derived.Shelf.Strconv.ParseUint10
import Derived.Shelf.Strconv.ParseUint10Empty
import Derived.Shelf.Strconv.ParseUint10Any
import Derived.Shelf.Strconv.RangeError
import Derived.Shelf.Strconv.ToErrorRange
import Derived.Shelf.Strconv.ParseUintEmpty
import Derived.Shelf.Strconv.ParseUint10b64
import Derived.Shelf.Strconv.ParseUint10At
import Derived.Ground.MpProg
import Derived.Shelf.Pu.ParseUintPublic10
import Derived.Shelf.Pu.ErrVarParseUint
import Derived.Shelf.Strings.Search1
import Derived.Shelf.Strings.Search2
import Derived.Shelf.Strings.Cut
import Derived.Shelf.Strings.Shaped
import Derived.Test.YtmaemgihhipllaaGreatDoorProg
import Derived.Lib.AppendIntMem
import Derived.Lib.ItoaWalk
import Derived.Deep.Cut
namespace Go.Proofs.YtmaemgihhipllaaGreatDoor
set_option linter.unusedVariables false
set_option linter.unusedSimpArgs false
open Go.RowKit
/-- The number whose bytes these are, the lowest first. -/
def lowN : List UInt8 → Nat
  | [] => 0
  | c :: l => c.toNat + 256 * lowN l
theorem lowN_lt : ∀ (l : List UInt8), lowN l < 256 ^ l.length
  | [] => by simp [lowN]
  | c :: l => by
    have := lowN_lt l
    have hc := c.toNat_lt
    simp only [lowN, List.length_cons, Nat.pow_succ]
    omega
theorem lowN_lt64 (l : List UInt8) (h : l.length ≤ 8) : lowN l < 18446744073709551616 := by
  have h1 := lowN_lt l
  have h2 : 256 ^ l.length ≤ 256 ^ 8 := Nat.pow_le_pow_right (by omega) h
  have h3 : (256 : Nat) ^ 8 = 18446744073709551616 := by decide
  omega
theorem lowN_drop (l : List UInt8) (i : Nat) (h : i < l.length) : lowN (l.drop i) = l[i].toNat + 256 * lowN (l.drop (i + 1)) := by
  rw [List.drop_eq_getElem_cons h]
  rfl
theorem u64_or_low (n c : Nat) (hc : c < 256) (h : 256 * n + c < 18446744073709551616) : bits .or .u64 ((n * 256 : Nat) : Int) (c : Int) = ((c + 256 * n : Nat) : Int) := by
  rw [u64_or_nat _ _ (by omega) (by omega)]
  have := Nat.shiftLeft_add_eq_or_of_lt (i := 8) (b := c) (by simpa using hc) n
  rw [Nat.shiftLeft_eq] at this
  simp only [Nat.reducePow] at this
  rw [← this]; congr 1; omega

/-- A number's bytes, the lowest first, in so many. -/
def leN : Nat → Nat → List UInt8
  | 0, _ => []
  | k + 1, n => UInt8.ofNat n :: leN k (n / 256)
@[simp] theorem leN_length : ∀ k n, (leN k n).length = k
  | 0, _ => rfl
  | k + 1, n => by simp [leN, leN_length k]
theorem leN_get : ∀ (k n i : Nat) (h : i < (leN k n).length), (leN k n)[i].toNat = n / 256 ^ i % 256
  | 0, n, i, h => by simp [leN] at h
  | k + 1, n, 0, h => by simp [leN, UInt8.toNat_ofNat']
  | k + 1, n, i + 1, h => by
    simp only [leN, List.getElem_cons_succ]
    rw [leN_get k (n / 256) i (by simpa [leN] using h), Nat.div_div_eq_div_mul, Nat.pow_succ, Nat.mul_comm 256]
theorem lowN_leN : ∀ k n, lowN (leN k n) = n % 256 ^ k
  | 0, n => by simp [leN, lowN, Nat.mod_one]
  | k + 1, n => by
    simp only [leN, lowN, lowN_leN k, UInt8.toNat_ofNat', Nat.reducePow]
    rw [Nat.pow_succ, Nat.mul_comm _ 256, Nat.mod_mul]
theorem leN_lowN : ∀ (l : List UInt8), leN l.length (lowN l) = l
  | [] => rfl
  | c :: l => by
    have hc := c.toNat_lt
    simp only [List.length_cons, leN, lowN]
    rw [show (c.toNat + 256 * lowN l) / 256 = lowN l by omega, leN_lowN l]
    congr 1
    apply UInt8.toNat.inj
    simp
/-- Values stored over a row, from a place on. -/
def wrs (cs : Array Value) : Nat → List Value → Array Value
  | _, [] => cs
  | o, v :: l => wrs (cs.setIfInBounds o v) (o + 1) l
@[simp] theorem wrs_size : ∀ (l : List Value) (cs : Array Value) (o : Nat), (wrs cs o l).size = cs.size
  | [], _, _ => rfl
  | v :: l, cs, o => by simp [wrs, wrs_size l]
theorem wrs_get : ∀ (l : List Value) (cs : Array Value) (o i : Nat),
    (wrs cs o l)[i]? = if o ≤ i ∧ i < o + l.length ∧ i < cs.size then l[i - o]? else cs[i]?
  | [], cs, o, i => by simp [wrs]; omega
  | v :: l, cs, o, i => by
    simp only [wrs, wrs_get l, Array.size_setIfInBounds, List.length_cons, Array.getElem?_setIfInBounds]
    by_cases h1 : o = i
    · subst h1
      by_cases h2 : o < cs.size
      · rw [if_neg (by omega), if_pos rfl, if_pos h2, if_pos (by omega)]; simp
      · rw [if_neg (by omega), if_pos rfl, if_neg h2, if_neg (by omega)]; simp [Array.getElem?_eq_none (by omega : cs.size ≤ o)]
    · by_cases h2 : o + 1 ≤ i ∧ i < o + 1 + l.length ∧ i < cs.size
      · rw [if_pos h2, if_pos (by omega)]
        rw [show i - o = (i - (o + 1)) + 1 by omega]; simp
      · rw [if_neg h2, if_neg h1, if_neg (by omega)]
theorem wrs_snoc : ∀ (l : List Value) (cs : Array Value) (o : Nat) (v : Value), wrs cs o (l ++ [v]) = (wrs cs o l).setIfInBounds (o + l.length) v
  | [], cs, o, v => rfl
  | x :: l, cs, o, v => by
    simp only [List.cons_append, wrs, wrs_snoc l, List.length_cons]
    congr 1; omega
/-- Bytes as cells. -/
abbrev u8v (c : UInt8) : Value := .int .u8 c.toNat
theorem leN_snoc : ∀ (k n : Nat), leN (k + 1) n = leN k n ++ [UInt8.ofNat (n / 256 ^ k)]
  | 0, n => by simp [leN]
  | k + 1, n => by
    show UInt8.ofNat n :: leN (k + 1) (n / 256) = (UInt8.ofNat n :: leN k (n / 256)) ++ [_]
    rw [leN_snoc k (n / 256), Nat.div_div_eq_div_mul, Nat.pow_succ, Nat.mul_comm 256]; rfl
theorem cell_in {w : World} {b : Nat} {cs : Array Value} {E : TypeId} {fz : Nat × Nat} (h : w.heap[b]? = some (.cells cs E fz)) {i : Nat} {v : Value} (hv : cs[i]? = some v) : w.cell? ⟨b, i, none⟩ = some v := by
  simp [World.cell?, h, hv]
theorem frozen_in {w : World} {b : Nat} {cs : Array Value} {E : TypeId} (h : w.heap[b]? = some (.cells cs E (0, 0))) (i : Nat) : w.frozen? ⟨b, i, none⟩ = false := by
  simp [World.frozen?, h]
theorem heap_setRow {w : World} {b : Nat} {cs : Array Value} {E : TypeId} {fz : Nat × Nat} (h : w.heap[b]? = some (.cells cs E fz)) (cs' : Array Value) : (w.setRow b cs').heap[b]? = some (.cells cs' E fz) := setRow_heap w b cs cs' E fz h
theorem setRow_eq {w : World} {b : Nat} {cs : Array Value} {E : TypeId} {fz : Nat × Nat} (h : w.heap[b]? = some (.cells cs E fz)) : w.setRow b cs = w := setRow_self w b cs E fz h
theorem setRow_setCell {w : World} {b : Nat} {cs : Array Value} {E : TypeId} {fz : Nat × Nat} (h : w.heap[b]? = some (.cells cs E fz)) (cs' : Array Value) (i : Nat) (v : Value) :
    (w.setRow b cs').setCell ⟨b, i, none⟩ v = w.setRow b (cs'.setIfInBounds i v) := by
  rw [setCell_eq_setRow _ b i cs' E fz v (heap_setRow h cs'), setRow_setRow]
theorem ret1 {a b : Value} (h : a = b) : Ending.returned a = Ending.returned b := by rw [h]
theorem belowN {B : Nat} {a w : World} (h : Below B a w) (n : Nat) : Below B a (w.drewN n) := h.trans ⟨rfl, rfl, rfl, Nat.le_refl _, fun _ _ => rfl⟩
/-- What a call did: it may have changed the blocks of S, and made new ones; all else is as it was. -/
structure Chg (S : Nat → Prop) (w w' : World) : Prop where
  os : w'.os = w.os
  tape : w'.tape = w.tape
  output : w'.output = w.output
  size : w.heap.size ≤ w'.heap.size
  block : ∀ k, k < w.heap.size → ¬ S k → w'.heap[k]? = w.heap[k]?
theorem Chg.refl (S : Nat → Prop) (w : World) : Chg S w w := ⟨rfl, rfl, rfl, Nat.le_refl _, fun _ _ _ => rfl⟩
theorem Chg.trans {S S' : Nat → Prop} {a b c : World} (h : Chg S a b) (k : Chg S' b c) (hs : ∀ i, S' i → i < a.heap.size → S i) : Chg S a c :=
  ⟨k.os.trans h.os, k.tape.trans h.tape, k.output.trans h.output, Nat.le_trans h.size k.size, fun i hi hn => (k.block i (Nat.lt_of_lt_of_le hi h.size) (fun h' => hn (hs i h' hi))).trans (h.block i hi hn)⟩
theorem Chg.mono {S S' : Nat → Prop} {a b : World} (h : Chg S a b) (hs : ∀ i, S i → i < a.heap.size → S' i) : Chg S' a b :=
  ⟨h.os, h.tape, h.output, h.size, fun i hi hn => h.block i hi (fun h' => hn (hs i h' hi))⟩
theorem Chg.drewN (S : Nat → Prop) (w : World) (n : Nat) : Chg S w (w.drewN n) := ⟨rfl, rfl, rfl, Nat.le_refl _, fun _ _ _ => rfl⟩
theorem Chg.drew (S : Nat → Prop) (w : World) : Chg S w w.drew := ⟨rfl, rfl, rfl, Nat.le_refl _, fun _ _ _ => rfl⟩
theorem Chg.alloc (S : Nat → Prop) (w : World) (o : Obj) : Chg S w (w.alloc o) := ⟨rfl, rfl, rfl, by simp, fun k hk _ => Below.heap_alloc _ _ _ hk⟩
theorem Chg.setRow (S : Nat → Prop) (w : World) (g : Nat) (cs : Array Value) (h : S g) : Chg S w (w.setRow g cs) :=
  ⟨rfl, rfl, rfl, by simp, fun k _ hn => setRow_other w g k cs (fun e => hn (e ▸ h))⟩
theorem Chg.setCell (S : Nat → Prop) (w : World) (a : Addr) (v : Value) (h : S a.block) : Chg S w (w.setCell a v) :=
  ⟨rfl, rfl, rfl, by simp [World.setCell], fun k _ hn => Below.heap_setCell _ _ _ _ (fun e => hn (e ▸ h))⟩
theorem Chg.of_below {w w' : World} (S : Nat → Prop) (h : Below w.heap.size w w') : Chg S w w' := ⟨h.os, h.tape, h.output, h.size, fun k hk _ => h.block k hk⟩
theorem Chg.of_grown {w w' : World} {row : Option Nat} (S : Nat → Prop) (h : w.grownBy w' row) (hr : ∀ k, row = some k → S k) : Chg S w w' :=
  ⟨h.os, h.tape, h.output, h.size, fun k hk hn => h.block k hk (fun e => hn (hr k e.symm))⟩
theorem belowChg {B : Nat} {S : Nat → Prop} {a w w' : World} (h : Below B a w) (hc : Chg S w w') (hB : B ≤ w.heap.size) (hs : ∀ k, S k → k < w.heap.size → B ≤ k) : Below B a w' :=
  h.trans ⟨hc.os, hc.tape, hc.output, hc.size, fun k hk => hc.block k (by omega) (fun h' => by have := hs k h' (by omega); omega)⟩
theorem Chg.keep {S : Nat → Prop} {w w' : World} (h : Chg S w w') {k : Nat} {o : Obj} (hk : w.heap[k]? = some o) (hn : ¬ S k) : w'.heap[k]? = some o := by
  rw [h.block k (Array.getElem?_eq_some_iff.1 hk).1 hn]; exact hk
theorem heap_lt {w : World} {k : Nat} {o : Obj} (hk : w.heap[k]? = some o) : k < w.heap.size := (Array.getElem?_eq_some_iff.1 hk).1
theorem heap_new (w : World) (o : Obj) : (w.alloc o).heap[w.heap.size]? = some o := heap_alloc_new w o
theorem heap_old {w : World} {k : Nat} {o : Obj} (hk : w.heap[k]? = some o) (o' : Obj) : (w.alloc o').heap[k]? = some o := by
  rw [Below.heap_alloc _ _ _ (heap_lt hk)]; exact hk
theorem wrs_list : ∀ (b' b a c : List Value), b'.length = b.length → wrs (a ++ (b ++ c)).toArray a.length b' = (a ++ (b' ++ c)).toArray
  | [], [], a, c, _ => rfl
  | x :: b', y :: b, a, c, h => by
    simp only [wrs]
    have h1 : (a ++ (y :: b ++ c)).toArray.setIfInBounds a.length x = ((a ++ [x]) ++ (b ++ c)).toArray := by simp
    rw [h1, show a.length + 1 = (a ++ [x]).length by simp, wrs_list b' b (a ++ [x]) c (by simpa using h)]
    simp
  | [], _ :: _, _, _, h => by simp at h
  | _ :: _, [], _, _, h => by simp at h
/-- A row whose cells are known, none of them frozen. (What '[]byte(s)' makes bears a mark behind its last cell.) -/
def RowAt (w : World) (g : Nat) (e : TypeId) (cur : Array Value) : Prop := ∃ fz : Nat × Nat, (∀ i, i < cur.size → ¬ (fz.1 ≤ i ∧ i < fz.2)) ∧ w.heap[g]? = some (.cells cur e fz)
theorem RowAt.of {w : World} {g : Nat} {e : TypeId} {cur : Array Value} (h : w.heap[g]? = some (.cells cur e (0, 0))) : RowAt w g e cur := ⟨(0, 0), fun i _ => by simp, h⟩
section
variable {w : World} {g : Nat} {e : TypeId} {cur : Array Value}
theorem RowAt.cell (h : RowAt w g e cur) {i : Nat} {v : Value} (hv : cur[i]? = some v) : w.cell? ⟨g, i, none⟩ = some v := by
  obtain ⟨fz, _, hh⟩ := h
  exact cell_in hh hv
theorem RowAt.free (h : RowAt w g e cur) {i : Nat} (hi : i < cur.size) : w.frozen? ⟨g, i, none⟩ = false := by
  obtain ⟨⟨lo, hi'⟩, hf, hh⟩ := h
  have := hf i hi
  simp only [World.frozen?, hh, Bool.and_eq_false_iff, decide_eq_false_iff_not]
  by_cases h1 : lo ≤ i
  · exact .inr fun h2 => this ⟨h1, h2⟩
  · exact .inl h1
theorem RowAt.lt (h : RowAt w g e cur) : g < w.heap.size := by
  obtain ⟨fz, _, hh⟩ := h
  exact heap_lt hh
theorem RowAt.keep (h : RowAt w g e cur) {S : Nat → Prop} {w' : World} (hc : Chg S w w') (hn : ¬ S g) : RowAt w' g e cur := by
  obtain ⟨fz, hf, hh⟩ := h
  exact ⟨fz, hf, hc.keep hh hn⟩
theorem RowAt.setRow (h : RowAt w g e cur) {cs : Array Value} (hs : cs.size = cur.size) : RowAt (w.setRow g cs) g e cs := by
  obtain ⟨fz, hf, hh⟩ := h
  exact ⟨fz, by rw [hs]; exact hf, heap_setRow hh cs⟩
theorem RowAt.other (h : RowAt w g e cur) {k : Nat} (cs : Array Value) (hk : g ≠ k) : RowAt (w.setRow k cs) g e cur := by
  obtain ⟨fz, hf, hh⟩ := h
  exact ⟨fz, hf, by rw [setRow_other _ _ _ _ hk]; exact hh⟩
theorem RowAt.drewN (h : RowAt w g e cur) (n : Nat) : RowAt (w.drewN n) g e cur := h
theorem RowAt.setSame (h : RowAt w g e cur) : w.setRow g cur = w := by
  obtain ⟨fz, hf, hh⟩ := h
  exact setRow_eq hh
theorem RowAt.setSet (h : RowAt w g e cur) (cs : Array Value) (i : Nat) (v : Value) : (w.setRow g cs).setCell ⟨g, i, none⟩ v = w.setRow g (cs.setIfInBounds i v) := by
  obtain ⟨fz, hf, hh⟩ := h
  exact setRow_setCell hh cs i v
theorem RowAt.setCell (h : RowAt w g e cur) (i : Nat) (v : Value) : w.setCell ⟨g, i, none⟩ v = w.setRow g (cur.setIfInBounds i v) := by
  have := h.setSet cur i v
  rwa [h.setSame] at this
theorem RowAt.old (h : RowAt w g e cur) (o : Obj) : RowAt (w.alloc o) g e cur := by
  obtain ⟨fz, hf, hh⟩ := h
  exact ⟨fz, hf, heap_old hh o⟩
end
end Go.Proofs.YtmaemgihhipllaaGreatDoor

/- Slices whose row is known whole: append, copy, make. -/
namespace Go.Proofs.YtmaemgihhipllaaGreatDoor
set_option linter.unusedVariables false
set_option linter.unusedSimpArgs false
open Go.RowKit

/-- What is known behind an append: the value, its row, and that only the old row may have been written. -/
def Appended (w : World) (e : TypeId) (size : Nat) (g : Option Nat) (olds news : List Value) (n : Nat) (v : Value) (w' : World) : Prop :=
  ∃ g' cap' cur', v = .slice (some ⟨g', 0, none⟩) n cap' ∧ RowAt w' g' e cur' ∧ cur'.size = cap' * size ∧ n ≤ cap' ∧ cap' ≤ maxLen ∧
    cur'.toList.take (n * size) = olds ++ news ∧ (some g' = g ∨ w.heap.size ≤ g') ∧ Chg (fun k => some k = g) w w'

section
variable {P : Program} (w : World)
theorem append_grown (g : Option Nat) (e : TypeId) (size : Nat) (z : Value) (hzs : z.cells.size = size) (olds news : List Value) (n old : Nat) (hl : (olds ++ news).length = n * size) (hm : n ≤ maxLen) :
    Appended w e size g olds news n (.slice (some ⟨w.heap.size, 0, none⟩) n (grownCap w n old e))
      (w.drew.alloc (.cells (olds.toArray ++ news.toArray ++ Builtin.zeroCells z.cells (grownCap w n old e - n)) e)) := by
  have hge := grownCap_ge w n old e
  refine ⟨w.heap.size, grownCap w n old e, _, rfl, .of (heap_alloc_new w.drew _), ?_, hge, grownCap_le_maxLen w n old e hm, ?_, .inr (Nat.le_refl _), (Chg.drew _ w).trans (Chg.alloc _ _ _) fun _ h _ => h⟩
  · have : (olds.toArray ++ news.toArray).size = n * size := by simpa using hl
    rw [Array.size_append, this, size_zeroCells, hzs, ← Nat.add_mul]; congr 1; omega
  · simp only [Array.toList_append, ← hl]
    exact List.take_left

theorem run_storeCells_row (g o : Nat) (t : TypeId) : ∀ (vs : List Value) (i : Nat) (cur : Array Value) (w : World), RowAt w g t cur → o + i + vs.length ≤ cur.size → (∀ v ∈ vs, v.oneCell' = true) →
    (storeCells ⟨g, o, none⟩ vs i).run P w = .ok () (w.setRow g (cur.toList.take (o + i) ++ vs ++ cur.toList.drop (o + i + vs.length)).toArray)
  | [], i, cur, w, hg, _, _ => by
    simp only [storeCells, List.append_nil, List.length_nil, Nat.add_zero, List.take_append_drop, Array.toArray_toList]
    rw [hg.setSame]
    rfl
  | v :: rest, i, cur, w, hg, hl, h1 => by
    have hlt : o + i < cur.size := by simp at hl; omega
    have hc := hg.cell (i := o + i) (v := cur[o + i]) (by simp [hlt])
    have hf := hg.free hlt
    have h1v := h1 v (by simp)
    have hst : (store (Addr.add ⟨g, o, none⟩ i) v).run P w = .ok () (w.setRow g (cur.setIfInBounds (o + i) v)) := by
      rw [Addr.add_lit, ← hg.setCell]
      unfold store
      cases v <;> simp_all [Sem.run, Value.oneCell']
    have ih := run_storeCells_row g o t rest (i + 1) (cur.setIfInBounds (o + i) v) (w.setRow g (cur.setIfInBounds (o + i) v)) (hg.setRow (by simp)) (by simp at hl ⊢; omega) (fun u hu => h1 u (by simp [hu]))
    simp only [storeCells, Sem.run_bind, hst, Result.andThen_ok, ih, setRow_setRow]
    congr 3
    have e := list_seg_step cur.toList (o + i) v rest (by simp at hl ⊢; omega)
    simpa [Array.toList_setIfInBounds, Nat.add_assoc] using e

/-- 'append(s, x...)', both slices; s not nil, its row known. -/
theorem run_append_row (t ty e : TypeId) (i : TypeInfo) (z : Value) (size bytes : Nat) (ht : P.underlying t = some (.slice e)) (hi : P.info? e = some i) (hz : i.zero = some z)
    (hsize : i.size = size) (hby : i.bytes = bytes) (hzs : z.cells.size = size)
    (g n cap : Nat) (cur : Array Value) (hg : RowAt w g e cur) (hcs : cur.size = cap * size) (hnc : n ≤ cap) (hcm : cap ≤ maxLen)
    (a : Addr) (m c : Nat) (news : List Value) (hl : news.length = m * size) (hnews : ∀ j u, news[j]? = some u → w.cell? (a.add j) = some u) (h1 : ∀ u ∈ news, u.oneCell' = true)
    (h63 : n + m ≤ maxLen) (hbytes : (n + m) * bytes ≤ 140737488355328) :
    ∃ v w', (Builtin.append_ #[t, t] ty #[.slice (some ⟨g, 0, none⟩) n cap, .slice (some a) m c]).run P w = .ok v w' ∧ Appended w e size (some g) (cur.toList.take (n * size)) news (n + m) v w' := by
  subst hsize
  subst hby
  have hol : (cur.toList.take (n * i.size)).length = n * i.size := by
    rw [List.length_take, Array.length_toList, hcs, Nat.min_eq_left (Nat.mul_le_mul_right _ hnc)]
  have hlen : (cur.toList.take (n * i.size) ++ news).length = (n + m) * i.size := by rw [List.length_append, hol, hl, Nat.add_mul]
  by_cases hroom : n + m ≤ cap
  · have hfit : n * i.size + news.length ≤ cur.size := by rw [hl, hcs, ← Nat.add_mul]; exact Nat.mul_le_mul_right _ hroom
    have hf := run_firstCells_some (P := P) w i.size m a m c news hl hnews
    have hst := run_storeCells_row (P := P) g (n * i.size) e news 0 cur w hg (by simpa using hfit) h1
    simp only [Nat.add_zero] at hst
    have hr : (Builtin.append_ #[t, t] ty #[.slice (some ⟨g, 0, none⟩) n cap, .slice (some a) m c]).run P w =
      .ok (.slice (some ⟨g, 0, none⟩) (n + m) cap) (w.setRow g (cur.toList.take (n * i.size) ++ news ++ cur.toList.drop (n * i.size + news.length)).toArray) := by
      simp [Builtin.append_, run_underlying ht, sizeOf, typeInfo, hi, Builtin.lenOf, hroom, hf, Addr.add_lit, hst]
    refine ⟨_, _, hr, g, cap, _, rfl, hg.setRow (by simp; omega), ?_, hroom, hcm, ?_, .inl rfl, Chg.setRow _ _ _ _ rfl⟩
    · simp only [List.size_toArray, List.length_append, List.length_take, List.length_drop, Array.length_toList]; omega
    · show (cur.toList.take (n * i.size) ++ news ++ cur.toList.drop (n * i.size + news.length)).take ((n + m) * i.size) = _
      rw [← hlen]; exact List.take_left
  · have holds : ∀ j u, (cur.toList.take (n * i.size))[j]? = some u → w.cell? ((⟨g, 0, none⟩ : Addr).add j) = some u := fun j u hu => by
      have hadd : (⟨g, 0, none⟩ : Addr).add j = ⟨g, j, none⟩ := by unfold Addr.add; split <;> simp_all
      rw [hadd]
      refine hg.cell ?_
      rw [List.getElem?_take] at hu
      split at hu
      · simpa using hu
      · cases hu
    have hr := run_append_grow (P := P) w t ty e i z ht hi hz ⟨g, 0, none⟩ n cap _ hol holds a m c news hl hnews (by omega) (by simp only [maxLen] at h63; omega) (growslice_fits (by omega) hbytes)
    exact ⟨_, _, hr, append_grown w (some g) e i.size z hzs _ _ _ _ hlen h63⟩

/-- 'append(nil, x...)'. -/
theorem run_append_row_nil (t ty e : TypeId) (i : TypeInfo) (z : Value) (size bytes : Nat) (ht : P.underlying t = some (.slice e)) (hi : P.info? e = some i) (hz : i.zero = some z)
    (hsize : i.size = size) (hby : i.bytes = bytes) (hzs : z.cells.size = size)
    (a : Addr) (m c : Nat) (news : List Value) (hm : 0 < m) (hl : news.length = m * size) (hnews : ∀ j u, news[j]? = some u → w.cell? (a.add j) = some u)
    (h63 : m ≤ maxLen) (hbytes : m * bytes ≤ 140737488355328) :
    ∃ v w', (Builtin.append_ #[t, t] ty #[.slice none 0 0, .slice (some a) m c]).run P w = .ok v w' ∧ Appended w e size none [] news m v w' := by
  subst hsize
  subst hby
  have hr := run_append_nil (P := P) w t ty e i z ht hi hz a m c news hl hnews (by omega) (by simp only [maxLen] at h63; omega) (by omega)
  have := append_grown w none e i.size z hzs [] news m 0 (by simpa using hl) h63
  simp only [List.append_nil, List.nil_append, Array.empty_append] at this
  exact ⟨_, _, hr, this⟩

/-- 'append(b, make([]T, k)...)'. -/
theorem run_append_zeros (t t2 ty e : TypeId) (kk : IntKind) (i : TypeInfo) (z : Value) (bytes : Nat) (ht : P.underlying t = some (.slice e)) (ht2 : P.underlying t2 = some (.int kk)) (hi : P.info? e = some i) (hz : i.zero = some z)
    (hsize : i.size = 1) (hby : i.bytes = bytes) (hzs : z.cells = #[z]) (hz1 : z.oneCell' = true)
    (g n cap : Nat) (cur : Array Value) (hg : RowAt w g e cur) (hcs : cur.size = cap) (hnc : n ≤ cap) (hcm : cap ≤ maxLen)
    (m : Nat) (hm0 : 0 < m) (h63 : n + m ≤ maxLen) (hbytes : (n + m) * bytes ≤ 140737488355328) :
    ∃ v w', (Builtin.append_ #[t, t2] ty #[.slice (some ⟨g, 0, none⟩) n cap, .int .i64 m]).run P w = .ok v w' ∧ Appended w e 1 (some g) (cur.toList.take n) (List.replicate m z) (n + m) v w' := by
  subst hby
  have hw : IntKind.i64.wrap (m : Int) = m := IntWalk.i64_in _ ⟨by omega, by simp only [maxLen] at h63; omega⟩
  have hneg : ¬ (m : Int) < 0 := by omega
  have h48 : ¬ (281474976710656 < (m : Int) * i.bytes) := by
    have : m * i.bytes ≤ (n + m) * i.bytes := Nat.mul_le_mul_right _ (by omega)
    have h2 : ((m * i.bytes : Nat) : Int) ≤ 140737488355328 := by omega
    rw [Int.natCast_mul] at h2
    omega
  have hzc : ∀ k, Builtin.zeroCells z.cells k = (List.replicate k z).toArray := fun k => by
    unfold Builtin.zeroCells
    rw [hzs]
    apply Array.ext
    · simp
    · intro j h1 h2; simp [Nat.mod_one]
  have hol : (cur.toList.take n).length = n := by rw [List.length_take, Array.length_toList, hcs, Nat.min_eq_left hnc]
  by_cases hroom : n + m ≤ cap
  · have hst := run_storeCells_row (P := P) g n e (List.replicate m z) 0 cur w hg (by simp; omega) (by simp; exact fun _ => hz1)
    simp only [Nat.add_zero, List.length_replicate] at hst
    refine ⟨.slice (some ⟨g, 0, none⟩) (n + m) cap, w.setRow g (cur.toList.take n ++ List.replicate m z ++ cur.toList.drop (n + m)).toArray, ?_, g, cap, (cur.toList.take n ++ List.replicate m z ++ cur.toList.drop (n + m)).toArray, rfl, hg.setRow (by simp; omega), ?_, hroom, hcm, ?_, .inl rfl, Chg.setRow _ _ _ _ rfl⟩
    · simp [Builtin.append_, run_underlying ht, run_underlying ht2, sizeOf, typeInfo, hi, asInt, asIntOf, hw, hneg, h48, hroom, hsize, zeroValue, hz, hzc, Addr.add_lit, show m ≠ 0 by omega, hst]
    · simp; omega
    · show (cur.toList.take n ++ List.replicate m z ++ cur.toList.drop (n + m)).take ((n + m) * 1) = _
      have : (cur.toList.take n ++ List.replicate m z).length = (n + m) * 1 := by rw [List.length_append, hol]; simp
      rw [← this]; exact List.take_left
  · have hgr := append_grown w (some g) e 1 z (by rw [hzs]; rfl) (cur.toList.take n) (List.replicate m z) (n + m) cap (by rw [List.length_append, hol]; simp) h63
    refine ⟨_, _, ?_, hgr⟩
    have h63' : ¬ (9223372036854775807 < ((n : Int) + (m : Int))) := by simp only [maxLen] at h63; omega
    have h48' : ¬ (281474976710656 < Builtin.nextslicecap (n + m) cap * i.bytes) := by have := growslice_fits (old := cap) (show cap < n + m by omega) hbytes; omega
    have holds : ∀ j u, (cur.toList.take n)[j]? = some u → w.drew.cell? ((⟨g, 0, none⟩ : Addr).add j) = some u := fun j u hu => by
      have hadd : (⟨g, 0, none⟩ : Addr).add j = ⟨g, j, none⟩ := by unfold Addr.add; split <;> simp_all
      rw [hadd]
      refine (show RowAt w.drew g e cur from hg).cell ?_
      rw [List.getElem?_take] at hu
      split at hu
      · simpa using hu
      · cases hu
    have hfo := run_firstCells_some (P := P) w.drew 1 n ⟨g, 0, none⟩ n cap (cur.toList.take n) (by rw [hol]; omega) holds
    simp [Builtin.append_, run_underlying ht, run_underlying ht2, sizeOf, typeInfo, hi, asInt, asIntOf, hw, hneg, h48, hroom, hsize, zeroValue, hz, hzc, show m ≠ 0 by omega, h63', h48', Question.forced, newRow, grownCap, hfo]

/-- The row behind a copy. -/
def spliced (cur : Array Value) (o : Nat) (news : List Value) : Array Value := (cur.toList.take o ++ news ++ cur.toList.drop (o + news.length)).toArray
theorem spliced_size (cur : Array Value) (o : Nat) (news : List Value) (h : o + news.length ≤ cur.size) : (spliced cur o news).size = cur.size := by
  simp [spliced]; omega
theorem run_copy_row (t t2 ty e : TypeId) (i : TypeInfo) (ht : P.underlying t = some (.slice e)) (hi : P.info? e = some i) (hsize : i.size = 1)
    (g o dl dc : Nat) (cur : Array Value) (hg : RowAt w g e cur) (a : Addr) (sl sc n : Nat) (hn : n = min sl dl) (ho : o + n ≤ cur.size)
    (news : List Value) (hl : news.length = n) (hnews : ∀ j u, news[j]? = some u → w.cell? (a.add j) = some u) (h1 : ∀ u ∈ news, u.oneCell' = true) :
    (Builtin.copy_ #[t, t2] ty #[.slice (some ⟨g, o, none⟩) dl dc, .slice (some a) sl sc]).run P w = .ok (.int .i64 (n : Nat)) (w.setRow g (spliced cur o news)) := by
  have hf := run_firstCells_some (P := P) w 1 n a sl sc news (by omega) hnews
  have hst := run_storeCells_row (P := P) g o e news 0 cur w hg (by omega) h1
  simp only [Nat.add_zero] at hst
  have hmin : Nat.min sl dl = n := hn.symm
  simp [Builtin.copy_, run_underlying ht, sizeOf, typeInfo, hi, hsize, Builtin.lenOf, hmin, hf, hst, goInt, spliced]

theorem run_make_row (t e : TypeId) (i : TypeInfo) (z : Value) (bytes : Nat) (ht : P.underlying t = some (.slice e)) (hi : P.info? e = some i) (hz : i.zero = some z)
    (hsize : i.size = 1) (hby : i.bytes = bytes) (hzs : z.cells = #[z]) (n : Nat) (h63 : n ≤ maxLen) (hbytes : n * bytes ≤ 140737488355328) :
    (Instr.makeSlice t (.int .i64 n) (.int .i64 n)).run P w = .ok (.slice (some ⟨w.heap.size, 0, none⟩) n n) (w.alloc (.cells (List.replicate n z).toArray e)) := by
  subst hby
  have hb : (i.bytes : Int) * (n : Int) ≤ 281474976710656 := by
    have h2 : ((n * i.bytes : Nat) : Int) ≤ 140737488355328 := by omega
    rw [Int.natCast_mul, Int.mul_comm] at h2
    omega
  have h := run_make (P := P) w t e i z ht hi hz .i64 .i64 n n (by omega) (by omega) hb (by simp only [maxLen] at h63; omega)
  rw [h]
  simp only [Int.toNat_natCast, hsize, Nat.mul_one]
  congr 3
  unfold madeCells
  rw [hzs]
  apply Array.ext
  · simp
  · intro j h1 h2; simp [Nat.mod_one]

theorem exec_copy {w w' : World} {o : Oper} {ρ : Operand → Value} {s x : Operand} {t u : TypeId} {v : Value} (ho : o.op = .call { callee := .builtin .copy, args := #[s, x], argTypes := #[t, u] })
    (h : (Builtin.copy_ #[t, u] o.type #[ρ s, ρ x]).run P w = .ok v w') : (execOp ρ o).run P w = .ok (.value v) w' := by
  unfold execOp
  simp only [ho, resolve, invoke, builtin, Sem.run_bind, Sem.run_pure, Result.andThen_ok, List.map_toArray, List.map_cons, List.map_nil, h]
theorem exec_append {w w' : World} {o : Oper} {ρ : Operand → Value} {s x : Operand} {t u : TypeId} {v : Value} (ho : o.op = .call { callee := .builtin .append, args := #[s, x], argTypes := #[t, u] })
    (h : (Builtin.append_ #[t, u] o.type #[ρ s, ρ x]).run P w = .ok v w') : (execOp ρ o).run P w = .ok (.value v) w' := by
  unfold execOp
  simp only [ho, resolve, invoke, builtin, Sem.run_bind, Sem.run_pure, Result.andThen_ok, List.map_toArray, List.map_cons, List.map_nil, h]

theorem row_splice {cur : Array Value} {a b c news : List Value} (h : cur.toList = a ++ (b ++ c)) (hl : news.length = b.length) {o : Nat} (ho : o = a.length) : (spliced cur o news).toList = a ++ (news ++ c) := by
  subst ho
  show cur.toList.take a.length ++ news ++ cur.toList.drop (a.length + news.length) = _
  rw [h, hl, List.take_left, ← List.drop_drop, List.drop_left, List.drop_left, List.append_assoc]
theorem row_wrs {cur : Array Value} {a b c b' : List Value} (h : cur.toList = a ++ (b ++ c)) (hl : b'.length = b.length) {o : Nat} (ho : o = a.length) : (wrs cur o b').toList = a ++ (b' ++ c) := by
  subst ho
  have : cur = (a ++ (b ++ c)).toArray := by rw [← h]
  rw [this, wrs_list b' b a c hl]
theorem row_cells {w : World} {g : Nat} {cur : Array Value} {e : TypeId} (hg : RowAt w g e cur) {a b c : List Value} (h : cur.toList = a ++ (b ++ c)) {o : Nat} (ho : o = a.length) :
    ∀ j u, b[j]? = some u → w.cell? ((⟨g, o, none⟩ : Addr).add j) = some u := by
  subst ho
  intro j u hu
  rw [Addr.add_lit]
  refine hg.cell ?_
  rw [← Array.getElem?_toList, h, List.getElem?_append_right (by omega), show a.length + j - a.length = j by omega, List.getElem?_append_left (List.getElem?_eq_some_iff.1 hu).1]
  exact hu
theorem row_take {cur : Array Value} {n : Nat} {bs : List Value} (h : cur.toList.take n = bs) : ∃ R, cur.toList = bs ++ R :=
  ⟨cur.toList.drop n, by rw [← h, List.take_append_drop]⟩
end
end Go.Proofs.YtmaemgihhipllaaGreatDoor

namespace Go.Proofs.YtmaemgihhipllaaGreatDoor
set_option linter.unusedVariables false
set_option linter.unusedSimpArgs false
open Go.RowKit Go.ChangeShapes Go.WideShapes Go.Deep
section
variable {H : Type} {enc : TypeId × Value → H} {P : Program} {w : World} {base : Nat} {spare : Nat → Bool} {held : Bool} {fuel : Nat} {t e : TypeId}
theorem float_cell {k : FloatKind} {v : Value} {x : DataW H × List MemPlace} (ht : P.underlying t = some (.float k)) (h : DataW.trod enc P w base spare held fuel t [v] = some x) : ∃ b, v = .float k b ∧ x.2 = [] := by
  cases fuel with
  | zero => simp [DataW.trod] at h
  | succ n =>
    unfold DataW.trod at h
    rw [ht] at h
    split at h <;> simp_all
    rw [← h.2]
theorem int_cell {k : IntKind} {v : Value} {x : DataW H × List MemPlace} (ht : P.underlying t = some (.int k)) (h : DataW.trod enc P w base spare held fuel t [v] = some x) : ∃ n, v = .int k n ∧ x.2 = [] ∧ (Lit.int k n).wf = true := by
  obtain ⟨n, h1, h2, h3⟩ := DataW.trod_int ht h
  exact ⟨n, by simpa using h1, by rw [h2], h3⟩
/-- A slice that came in: its cells are there. -/
def ArgRow (w : World) (a : Option Addr) (len cap : Nat) (f : Nat → Value) : Prop :=
  len ≤ cap ∧ (len = 0 ∨ ∃ b o, a = some ⟨b, o, none⟩ ∧ ∀ i, i < len → w.cell? ⟨b, o + i, none⟩ = some (f i))
theorem argRow_of {x : Addr} {len cap : Nat} {f : Nat → Value} (hl : len ≤ cap) (h : ∀ i, i < len → w.cell? (x.add i) = some (f i)) : ArgRow w (some x) len cap f := by
  refine ⟨hl, ?_⟩
  by_cases h0 : len = 0
  · exact .inl h0
  · right
    have hx : x.spot = none := by
      have := h 0 (by omega)
      simp only [Addr.add, if_pos] at this
      unfold World.cell? at this
      split at this
      · split at this
        · cases this
        · rename_i hs; simpa using hs
      · cases this
    obtain ⟨b, o, s⟩ := x
    simp only at hx
    subst hx
    refine ⟨b, o, rfl, fun i hi => ?_⟩
    have := h i hi
    rwa [add_plain] at this
theorem ints_arg {k : IntKind} {a : Option Addr} {len cap : Nat} {d : DataW H} {ps : List MemPlace} (ht : P.underlying t = some (.slice e)) (he : P.underlying e = some (.int k)) (hc : P.cellsOf e = 1)
    (h : DataW.Trod enc P w base spare held t (.slice a len cap) d ps) :
    ∃ zs : List Int, zs.length = len ∧ ArgRow w a len cap (fun i => .int k (zs.getD i 0)) ∧ ∀ n ∈ zs, (Lit.int k n).wf = true := by
  obtain ⟨fuel, hf⟩ := h
  rcases open_ints ht he hc hf with ⟨hcs, _⟩ | ⟨x, l, c, zs, hcs, _, hl, hm, hz, _, hcell, hwz⟩
  · simp [Value.cells] at hcs
    obtain ⟨rfl, rfl, rfl⟩ := hcs
    exact ⟨[], rfl, ⟨Nat.le_refl _, .inl rfl⟩, by simp⟩
  · simp [Value.cells] at hcs
    obtain ⟨rfl, rfl, rfl⟩ := hcs
    have hle : len ≤ zs.length := by rw [hz]; split <;> omega
    refine ⟨zs.take len, by simp; omega, argRow_of hl fun i hi => ?_, fun n hn => hwz n (List.mem_of_mem_take hn)⟩
    rw [hcell i (by omega)]
    simp [List.getD, List.getElem?_take, hi]
theorem strs_arg {a : Option Addr} {len cap : Nat} {d : DataW H} {ps : List MemPlace} (ht : P.underlying t = some (.slice e)) (he : P.underlying e = some .string) (hc : P.cellsOf e = 1)
    (h : DataW.Trod enc P w base spare held t (.slice a len cap) d ps) :
    ∃ zs : List ByteArray, zs.length = len ∧ ArgRow w a len cap (fun i => .string (zs.getD i ByteArray.empty)) := by
  obtain ⟨fuel, hf⟩ := h
  rcases open_slice1 ht hc hf with ⟨hcs, _⟩ | ⟨x, l, c, m, n, V, D, Pl, hcs, _, hl, hm, hmm, _, hV⟩
  · simp [Value.cells] at hcs
    obtain ⟨rfl, rfl, rfl⟩ := hcs
    exact ⟨[], rfl, ⟨Nat.le_refl _, .inl rfl⟩⟩
  · simp [Value.cells] at hcs
    obtain ⟨rfl, rfl, rfl⟩ := hcs
    have hle : len ≤ m := by rw [hmm]; split <;> omega
    have each : ∀ i, i < m → ∃ s : ByteArray, V i = .string s := fun i hi => by
      obtain ⟨s, hs, _⟩ := DataW.trod_string he (hV i hi).2
      exact ⟨s, by simpa using hs⟩
    obtain ⟨S, hS⟩ := choose_lt each
    refine ⟨(List.range len).map S, by simp, argRow_of hl fun i hi => ?_⟩
    rw [(hV i (by omega)).1, hS i (by omega)]
    simp [List.getD, hi]
/-- A slice of structs of two one-cell numbers that came in. -/
def RecRow (w : World) (a : Option Addr) (len cap : Nat) (f g : Nat → Value) : Prop :=
  len ≤ cap ∧ (len = 0 ∨ ∃ b o, a = some ⟨b, o, none⟩ ∧ ∀ i, i < len → w.cell? ⟨b, o + i * 2, none⟩ = some (f i) ∧ w.cell? ⟨b, o + i * 2 + 1, none⟩ = some (g i))
theorem recs_arg {f0 f1 : Field} {k0 k1 : IntKind} {a : Option Addr} {len cap : Nat} {d : DataW H} {ps : List MemPlace} (ht : P.underlying t = some (.slice e)) (he : P.underlying e = some (.struct #[f0, f1]))
    (ce : P.cellsOf e = 2) (o0 : f0.offset = 0) (o1 : f1.offset = 1) (c0 : P.cellsOf f0.type = 1) (c1 : P.cellsOf f1.type = 1) (u0 : P.underlying f0.type = some (.int k0)) (u1 : P.underlying f1.type = some (.int k1))
    (h : DataW.Trod enc P w base spare held t (.slice a len cap) d ps) :
    ∃ zs : List (Int × Int), zs.length = len ∧ RecRow w a len cap (fun i => .int k0 (zs.getD i (0, 0)).1) (fun i => .int k1 (zs.getD i (0, 0)).2) ∧ ∀ n ∈ zs, (Lit.int k0 n.1).wf = true ∧ (Lit.int k1 n.2).wf = true := by
  obtain ⟨fuel, hf⟩ := h
  rcases open_slice_pairs ht he ce o0 o1 c0 c1 hf with ⟨hcs, _⟩ | ⟨x, l, c, m, n, V0, V1, D0, D1, P0, P1, hcs, _, hl, hm, hmm, _, hV⟩
  · simp [Value.cells] at hcs
    obtain ⟨rfl, rfl, rfl⟩ := hcs
    exact ⟨[], rfl, ⟨Nat.le_refl _, .inl rfl⟩, by simp⟩
  · simp [Value.cells] at hcs
    obtain ⟨rfl, rfl, rfl⟩ := hcs
    have hle : len ≤ m := by rw [hmm]; split <;> omega
    have each : ∀ i, i < m → ∃ s : Int × Int, V0 i = .int k0 s.1 ∧ V1 i = .int k1 s.2 ∧ (Lit.int k0 s.1).wf = true ∧ (Lit.int k1 s.2).wf = true := fun i hi => by
      obtain ⟨_, _, g0, g1⟩ := hV i hi
      obtain ⟨n0, e0, _, w0⟩ := int_cell u0 g0
      obtain ⟨n1, e1, _, w1⟩ := int_cell u1 g1
      exact ⟨(n0, n1), e0, e1, w0, w1⟩
    obtain ⟨S, hS⟩ := choose_lt each
    refine ⟨(List.range len).map S, by simp, ⟨hl, ?_⟩, fun n hn => ?_⟩
    · by_cases h0 : len = 0
      · exact .inl h0
      · right
        obtain ⟨_, b, o, hx, hcells⟩ := argRow_of (w := w) (x := x) (len := 1) (cap := 1) (f := fun _ => V0 0) (Nat.le_refl _) (fun i hi => by
          have : i = 0 := by omega
          subst this
          simpa using (hV 0 (by omega)).1) |>.imp id (fun h => h.resolve_left (by omega))
        cases hx
        refine ⟨b, o, rfl, fun i hi => ?_⟩
        obtain ⟨g0, g1, _⟩ := hV i (by omega)
        rw [add_plain] at g0 g1
        rw [g0, show o + i * 2 + 1 = o + (i * 2 + 1) by omega, g1, (hS i (by omega)).1, (hS i (by omega)).2.1]
        simp [List.getD, hi]
    · obtain ⟨i, hi, rfl⟩ := List.mem_map.1 hn
      have := List.mem_range.1 hi
      exact (hS i (by omega)).2.2
end
end Go.Proofs.YtmaemgihhipllaaGreatDoor

/- Slices that a call has made itself, of elements of one cell. -/
namespace Go.Proofs.YtmaemgihhipllaaGreatDoor
set_option linter.unusedVariables false
set_option linter.unusedSimpArgs false
open Go.RowKit
/-- The slice value v holds n elements xs; its row lies in a block from B on. -/
def SliceIs (w : World) (B : Nat) (e : TypeId) (v : Value) (n : Nat) (xs : List Value) : Prop :=
  xs.length = n ∧ ((v = .slice none 0 0 ∧ n = 0) ∨ ∃ g cap cur, v = .slice (some ⟨g, 0, none⟩) n cap ∧ B ≤ g ∧ RowAt w g e cur ∧ cur.size = cap ∧ n ≤ cap ∧ cap ≤ maxLen ∧ cur.toList.take n = xs)
theorem SliceIs.nil (w : World) (B : Nat) (e : TypeId) : SliceIs w B e (.slice none 0 0) 0 [] := ⟨rfl, .inl ⟨rfl, rfl⟩⟩
section
variable {w : World} {B : Nat} {e : TypeId} {v : Value} {n : Nat} {xs : List Value}
theorem SliceIs.below (h : SliceIs w B e v n xs) {w' : World} (hb : Below w.heap.size w w') : SliceIs w' B e v n xs := by
  refine ⟨h.1, h.2.imp id ?_⟩
  rintro ⟨g, cap, cur, h1, h2, h3, h4⟩
  exact ⟨g, cap, cur, h1, h2, h3.keep (Chg.of_below (fun _ => False) hb) id, h4⟩
theorem SliceIs.arg (h : SliceIs w B e v n xs) : ∃ a cap, v = .slice a n cap ∧ ArgRow w a n cap (fun i => xs.getD i undef) := by
  rcases h.2 with ⟨rfl, rfl⟩ | ⟨g, cap, cur, rfl, _, h3, h4, h5, _, h7⟩
  · exact ⟨none, 0, rfl, Nat.le_refl _, .inl rfl⟩
  · refine ⟨some ⟨g, 0, none⟩, cap, rfl, h5, .inr ⟨g, 0, rfl, fun i hi => ?_⟩⟩
    have hx : xs[i]? = cur[i]? := by
      rw [← h7, List.getElem?_take_of_lt hi, Array.getElem?_toList]
    have hlt : i < xs.length := by rw [h.1]; exact hi
    rw [Nat.zero_add, h3.cell (v := xs.getD i undef) (by rw [← hx]; simp [List.getD, hlt])]
theorem run_append_local {P : Program} {t ty : TypeId} {i : TypeInfo} {z : Value} {bytes : Nat} (ht : P.underlying t = some (.slice e)) (hi : P.info? e = some i) (hz : i.zero = some z)
    (hsize : i.size = 1) (hby : i.bytes = bytes) (hzs : z.cells.size = 1) (h : SliceIs w B e v n xs) (hB : B ≤ w.heap.size)
    (a : Addr) (m c : Nat) (news : List Value) (hm : 0 < m) (hl : news.length = m) (hnews : ∀ j u, news[j]? = some u → w.cell? (a.add j) = some u) (h1 : ∀ u ∈ news, u.oneCell' = true)
    (h63 : n + m ≤ maxLen) (hbytes : (n + m) * bytes ≤ 140737488355328) :
    ∃ v' w', (Builtin.append_ #[t, t] ty #[v, .slice (some a) m c]).run P w = .ok v' w' ∧ SliceIs w' B e v' (n + m) (xs ++ news) ∧ Below B w w' := by
  have fin : ∀ (g : Option Nat) (olds : List Value) v' w', (∀ k, g = some k → B ≤ k) → olds = xs → Appended w e 1 g olds news (n + m) v' w' → SliceIs w' B e v' (n + m) (xs ++ news) ∧ Below B w w' := by
    rintro g olds v' w' hg rfl ⟨g', cap', cur', rfl, q1, q2, q3, q4, q5, q6, q7⟩
    refine ⟨⟨by rw [List.length_append, h.1, hl], .inr ⟨g', cap', cur', rfl, ?_, q1, by omega, q3, q4, by rw [← q5, Nat.mul_one]⟩⟩, belowChg (Below.refl _ _) q7 hB fun k hk _ => hg k hk.symm⟩
    rcases q6 with q6 | q6
    · exact hg g' q6.symm
    · omega
  rcases h.2 with ⟨rfl, rfl⟩ | ⟨g, cap, cur, rfl, h2, h3, h4, h5, h6, h7⟩
  · obtain ⟨v', w', hr, hp⟩ := run_append_row_nil (P := P) w t ty e i z 1 bytes ht hi hz hsize hby hzs a m c news hm (by omega) hnews (by omega) (by simpa using hbytes)
    have hx : [] = xs := (List.eq_nil_of_length_eq_zero h.1).symm
    refine ⟨v', w', hr, fin none [] v' w' (by simp) hx ?_⟩
    rw [Nat.zero_add]; exact hp
  · obtain ⟨v', w', hr, hp⟩ := run_append_row (P := P) w t ty e i z 1 bytes ht hi hz hsize hby hzs g n cap cur h3 (by omega) h5 h6 a m c news (by omega) hnews h1 h63 hbytes
    exact ⟨v', w', hr, fin (some g) _ v' w' (fun k hk => by cases hk; exact h2) (by rw [Nat.mul_one]; exact h7) hp⟩
/-- One element more, which the call has laid in a block of its own. -/
theorem run_append_one {P : Program} {t ty : TypeId} {i : TypeInfo} {z : Value} {bytes : Nat} (ht : P.underlying t = some (.slice e)) (hi : P.info? e = some i) (hz : i.zero = some z)
    (hsize : i.size = 1) (hby : i.bytes = bytes) (hzs : z.cells.size = 1) (h : SliceIs w B e v n xs) (hB : B ≤ w.heap.size) (u : Value) (hu : u.oneCell' = true)
    (h63 : n + 1 ≤ maxLen) (hbytes : (n + 1) * bytes ≤ 140737488355328) :
    ∃ v' w', (Builtin.append_ #[t, t] ty #[v, .slice (some ⟨w.heap.size, 0, none⟩) 1 1]).run P (w.alloc (.cells #[u] e)) = .ok v' w' ∧ SliceIs w' B e v' (n + 1) (xs ++ [u]) ∧ Below B w w' := by
  have hb : Below w.heap.size w (w.alloc (.cells #[u] e)) := (Below.refl _ _).alloc (Nat.le_refl _) _
  obtain ⟨v', w', hr, h2, h3⟩ := run_append_local (P := P) (ty := ty) ht hi hz hsize hby hzs (h.below hb) (by simp; omega) ⟨w.heap.size, 0, none⟩ 1 1 [u] (by omega) rfl (fun j x hx => by
    have hj : j = 0 := by have := (List.getElem?_eq_some_iff.1 hx).1; simpa using this
    subst hj
    rw [Addr.add_lit]
    refine cell_in (heap_new w _) ?_
    simpa using hx) (by simpa using hu) h63 hbytes
  exact ⟨v', w', hr, h2, (hb.mono hB).trans h3⟩
end
/-- An append in a region that does not draw, its run known. -/
theorem wpList_append_run {P : Program} {ops : Array Oper} {Q : Exit → Act → World → Prop} {rest : List Oper} {o : Oper} {a : Act} {w w' : World} {s x : Operand} {t u : TypeId} {v : Value} (hg : o.guard = none)
    (ho : o.op = .call { callee := .builtin .append, args := #[s, x], argTypes := #[t, u] }) (hr : (Builtin.append_ #[t, u] o.type #[a.eval s, a.eval x]).run P w = .ok v w')
    (h : wpList P ops Q rest (a.put o.dst v) w') : wpList P ops Q (o :: rest) a w :=
  wpList_plain hg fun K hK => by unfold Oper.wp; rw [exec_append ho hr]; exact hK _ _ h
end Go.Proofs.YtmaemgihhipllaaGreatDoor

/- Strings of bytes. -/
namespace Go.Proofs.YtmaemgihhipllaaGreatDoor
set_option linter.unusedVariables false
set_option linter.unusedSimpArgs false
open Go.RowKit
/-- The string of these bytes. -/
def strOf (bs : List UInt8) : ByteArray := ⟨bs.toArray⟩
@[simp] theorem strOf_size (bs : List UInt8) : (strOf bs).size = bs.length := by simp [strOf, ByteArray.size]
@[simp] theorem strOf_data (bs : List UInt8) : (strOf bs).data.toList = bs := by simp [strOf]
theorem strOf_inj {a b : List UInt8} (h : strOf a = strOf b) : a = b := by
  have := congrArg (fun s : ByteArray => s.data.toList) h
  simpa using this
theorem strOf_toList (s : ByteArray) : strOf s.data.toList = s := by cases s; simp [strOf]
theorem fold_push (bs : List UInt8) : ∀ s : ByteArray, (bs.map fun c => (c.toNat : Int)).foldl (fun r n => r.push (UInt8.ofNat n.toNat)) s = ⟨s.data ++ bs.toArray⟩ := by
  induction bs with
  | nil => intro s; simp
  | cons c bs ih =>
    intro s
    simp only [List.map_cons, List.foldl_cons, ih]
    simp [ByteArray.push]
theorem run_string_row {P : Program} (w : World) (src dst e : TypeId) (hs : P.underlying src = some (.slice e)) (he : P.underlying e = some (.int .u8)) (hd : P.underlying dst = some .string)
    (b o n cap : Nat) (bs : List UInt8) (hn : bs.length = n) (hc : ∀ i (h : i < bs.length), w.cell? ⟨b, o + i, none⟩ = some (.int .u8 bs[i].toNat)) :
    (convert src dst (.slice (some ⟨b, o, none⟩) n cap)).run P w = .ok (.string (strOf bs)) w := by
  subst hn
  rw [run_convert_bytes_string w src dst e _ _ _ hs he hd, run_bytesToString (ns := bs.map fun c => (c.toNat : Int))]
  · rw [fold_push]; simp [strOf, ByteArray.empty, ByteArray.emptyWithCapacity]; rfl
  · have := run_loadCells_list (P := P) w ⟨b, o, none⟩ (bs.map u8v) (fun j v hv => by
      rw [List.getElem?_map] at hv
      cases hb : bs[j]? with
      | none => rw [hb] at hv; cases hv
      | some c =>
        rw [hb] at hv
        obtain ⟨hj, hcj⟩ := List.getElem?_eq_some_iff.1 hb
        rw [Addr.add_lit, hc j hj, hcj]
        simpa using hv)
    rw [List.length_map] at this
    rw [this, List.map_map]; rfl
theorem run_string_nil {P : Program} (w : World) (src dst e : TypeId) (hs : P.underlying src = some (.slice e)) (he : P.underlying e = some (.int .u8)) (hd : P.underlying dst = some .string) (n c : Nat) :
    (convert src dst (.slice none n c)).run P w = .ok (.string (strOf [])) w := by
  rw [run_convert_bytes_string w src dst e _ _ _ hs he hd]
  simp [Conv.bytesToString]
  rfl
/-- '[]byte(s)': a new row, its capacity open. -/
theorem run_bytes_string {P : Program} (w : World) (src dst e : TypeId) (hs : P.underlying src = some .string) (hd : P.underlying dst = some (.slice e)) (he : P.underlying e = some (.int .u8)) (s : ByteArray) (hsz : s.size ≤ 140737488351232) :
    ∃ cap cur w', (convert src dst (.string s)).run P w = .ok (.slice (some ⟨w.heap.size, 0, none⟩) s.size cap) w' ∧ RowAt w' w.heap.size e cur ∧ cur.size = cap ∧ s.size ≤ cap ∧ cap ≤ maxLen ∧
      cur.toList.take s.size = s.data.toList.map u8v ∧ Chg (fun _ => False) w w' := by
  obtain ⟨cap, hcap⟩ : ∃ cap, cap = (Question.appendCap s.size 0 e).cut (w.tape w.drawn (.appendCap s.size 0 e)) := ⟨_, rfl⟩
  have hge : s.size ≤ cap := by rw [hcap]; simp [Question.cut]
  have hle : cap ≤ maxLen := by rw [hcap]; exact grownCap_le_maxLen w s.size 0 e (by unfold maxLen; omega)
  obtain ⟨cur, hcur⟩ : ∃ cur, cur = s.data.map (fun b => Value.int .u8 b.toNat) ++ Array.replicate (cap - s.size) (Value.int .u8 0) := ⟨_, rfl⟩
  have hsize : cur.size = cap := by
    rw [hcur, Array.size_append, Array.size_map, Array.size_replicate]
    show s.size + (cap - s.size) = cap
    omega
  refine ⟨cap, cur, (w.drew.alloc (.cells cur e)).freeze ⟨w.heap.size, cap, none⟩ 1, ?_, ?_, hsize, hge, hle, ?_, ?_⟩
  · simp [convert, run_underlying hs, run_underlying hd, run_underlying he, Conv.stringToBytes, Question.forced, newRow, markStringish]
    rw [← hcap, ← hcur]
    have hsh : (w.drew.alloc (.cells cur e)).shape? w.heap.size = some (e, cap) := by
      simp only [World.shape?]
      rw [show w.heap.size = w.drew.heap.size from rfl, heap_new]
      simp [hsize]
    rw [hsh]
    simp [freeze, Sem.run]
  · have hh : ((w.drew.alloc (.cells cur e)).freeze ⟨w.heap.size, cap, none⟩ 1).heap[w.heap.size]? = some (.cells cur e (cap, cap + 1)) := by
      unfold World.freeze
      simp only [Nat.one_ne_zero, if_false, Array.getElem?_modify]
      rw [show w.heap.size = w.drew.heap.size from rfl, heap_new]
      simp
    exact ⟨_, fun i hi => by simp; omega, hh⟩
  · rw [hcur, Array.toList_append, Array.toList_map, List.take_left' (by rw [List.length_map, Array.length_toList]; rfl)]
  · refine ⟨rfl, rfl, rfl, ?_, fun k hk _ => ?_⟩
    · simp [World.freeze]
    · unfold World.freeze
      simp only [Nat.one_ne_zero, if_false, Array.getElem?_modify]
      rw [if_neg (by omega)]
      exact Below.heap_alloc w.drew _ k hk
end Go.Proofs.YtmaemgihhipllaaGreatDoor

/- Regions that draw their order: one walk in the text's order serves every order, where the operations that write (and calls) stand in one line, and the others read only what stays. -/
namespace Go.Proofs.YtmaemgihhipllaaGreatDoor
set_option linter.unusedVariables false
set_option linter.unusedSimpArgs false

/-- Operation i waits for operation k, by whatever road. -/
inductive Dep (md : Region.Mode) (ops : Array Oper) (k : Nat) : Nat → Prop
  | direct {i : Nat} {o : Oper} {e : Edge} (ho : ops[i]? = some o) (he : e ∈ o.after) (hb : Region.binds md e = true) (hk : e.on = k) : Dep md ops k i
  | trans {i : Nat} {o : Oper} {e : Edge} (ho : ops[i]? = some o) (he : e ∈ o.after) (hb : Region.binds md e = true) (hd : Dep md ops k e.on) : Dep md ops k i

def depB (md : Region.Mode) (ops : Array Oper) (k : Nat) : Nat → Nat → Bool
  | 0, _ => false
  | fuel + 1, i => match ops[i]? with
    | some o => o.after.any fun e => Region.binds md e && (e.on == k || (decide (k < e.on) && depB md ops k fuel e.on))
    | none => false
theorem depB_spec {md : Region.Mode} {ops : Array Oper} {k : Nat} : ∀ (fuel i : Nat), depB md ops k fuel i = true → Dep md ops k i
  | 0, i, h => by simp [depB] at h
  | fuel + 1, i, h => by
    unfold depB at h
    split at h
    · rename_i o ho
      obtain ⟨e, he, hb⟩ := Array.any_eq_true'.1 h
      simp only [Bool.and_eq_true, Bool.or_eq_true, beq_iff_eq] at hb
      obtain ⟨hb1, hb2⟩ := hb
      rcases hb2 with hb2 | hb2
      · exact .direct ho he hb1 hb2
      · exact .trans ho he hb1 (depB_spec fuel _ hb2.2)
    · cases h

section
variable {P : Program} {ops : Array Oper} {md : Region.Mode}

theorem apart_symm {x y : Oper} (h : x.apart ops y = true) : y.apart ops x = true := by
  obtain ⟨h1, h2, h3⟩ := Oper.apart_spec h
  unfold Oper.apart
  cases hx : x.dst <;> cases hy : y.dst <;> simp
  · exact h3 _ hy
  · exact h1 _ hx
  · exact ⟨⟨h3 _ hy, fun e => h2 _ hx (by rw [hy, e])⟩, h1 _ hx⟩
/-- What waits is listed behind what it waits for. -/
def Closed (md : Region.Mode) (ops : Array Oper) (listed : Array Bool) : Prop :=
  ∀ j o, ops[j]? = some o → listed.getD j false = true → ∀ e ∈ o.after, Region.binds md e = true → listed.getD e.on false = true
theorem Closed.set {listed : Array Bool} {i : Nat} (h : Closed md ops listed) (hi : i ∈ Region.ready md ops listed) : Closed md ops (listed.setIfInBounds i true) := by
  obtain ⟨_, oi, hoi, hall⟩ := mem_ready.1 hi
  intro j oj hj hl e he hb
  by_cases hij : i = j
  · subst hij
    have : oj = oi := Option.some.inj (hj.symm.trans hoi)
    subst this
    exact getD_set_true (hall e he hb)
  · rw [getD_set_ne false hij] at hl
    exact getD_set_true (h j oj hj hl e he hb)
theorem Closed.dep {listed : Array Bool} (h : Closed md ops listed) {k i : Nat} (hk : listed.getD k false = false) (hd : Dep md ops k i) :
    listed.getD i false = false ∧ i ∉ Region.ready md ops listed := by
  induction hd with
  | direct ho he hb hek =>
    subst hek
    constructor
    · cases hl : listed.getD _ false
      · rfl
      · rw [h _ _ ho hl _ he hb] at hk; cases hk
    · intro hr
      obtain ⟨_, o', ho', hall⟩ := mem_ready.1 hr
      cases Option.some.inj (ho.symm.trans ho')
      rw [hall _ he hb] at hk; cases hk
  | trans ho he hb _ ih =>
    constructor
    · cases hl : listed.getD _ false
      · rfl
      · rw [h _ _ ho hl _ he hb] at ih; cases ih.1
    · intro hr
      obtain ⟨_, o', ho', hall⟩ := mem_ready.1 hr
      cases Option.some.inj (ho.symm.trans ho')
      rw [hall _ he hb] at ih; cases ih.1

/-- One operation hands back the value and leaves the world. -/
def calmAt (P : Program) (o : Oper) (a : Act) (v : Value) (w : World) : Prop :=
  (execOp a.eval o).run P w = .ok (.value v) w ∨ ((execOp a.eval o).run P w = .ok .skip w ∧ v = undef)
theorem calmAt_det {o : Oper} {a : Act} {v v' : Value} {w : World} (h : calmAt P o a v w) (h' : calmAt P o a v' w) : v = v' := by
  rcases h with h | ⟨h, rfl⟩ <;> rcases h' with h' | ⟨h', rfl⟩ <;> rw [h] at h' <;> cases h' <;> rfl

def Calm (P : Program) (ops : Array Oper) (C : World → Prop) (o : Oper) (v : Value) (a : Act) : Prop :=
  (Region.wanted o (yielded ops a.tmps) = true ∧ ∀ w, C w → calmAt P o a v w) ∨ (Region.wanted o (yielded ops a.tmps) = false ∧ v = undef)

variable {C : World → Prop}
theorem Calm.of_same {o : Oper} {v : Value} {a a' : Act} (hy : Calm P ops C o v a) (he : execOp a'.eval o = execOp a.eval o)
    (hw : Region.wanted o (yielded ops a'.tmps) = Region.wanted o (yielded ops a.tmps)) : Calm P ops C o v a' := by
  unfold Calm calmAt at *
  rw [he, hw]
  exact hy
theorem Calm.det {o : Oper} {v v' : Value} {a : Act} {w : World} (hC : C w) (h : Calm P ops C o v a) (h' : Calm P ops C o v' a) : v = v' := by
  rcases h with ⟨h1, h⟩ | ⟨h1, rfl⟩ <;> rcases h' with ⟨h2, h'⟩ | ⟨h2, rfl⟩
  · exact calmAt_det (h w hC) (h' w hC)
  · rw [h1] at h2; cases h2
  · rw [h1] at h2; cases h2
  · rfl

def QF : Exit → Act → World → Prop := fun _ _ _ => False

/-- An operation whose run is followed as it stands. -/
def loudOp (P : Program) (ops : Array Oper) (o : Oper) (K : Act → World → Prop) (a : Act) (w : World) : Prop :=
  if Region.wanted o (yielded ops a.tmps) then o.wp P a w K QF else K (a.put o.dst undef) w
theorem loudOp_mono {o : Oper} {K K' : Act → World → Prop} {a : Act} {w : World} (h : ∀ a w, K a w → K' a w) (hh : loudOp P ops o K a w) : loudOp P ops o K' a w := by
  unfold loudOp at *
  split
  · rename_i hw; simp only [hw, if_true] at hh; exact Oper.wp_mono h hh
  · rename_i hw; simp only [hw] at hh; exact h _ _ hh

/-- There is an end to it. -/
theorem loudOp_some {o : Oper} {K : Act → World → Prop} {a : Act} {w : World} (h : loudOp P ops o K a w) : ∃ ds u w', K (({ a with defers := ds } : Act).put o.dst u) w' := by
  unfold loudOp at h
  split at h
  · unfold Oper.wp at h
    generalize (execOp a.eval o).run P w = r at h
    cases r with
    | ok n w' =>
      cases n <;> simp only [Oper.upon] at h
      case value u => exact ⟨a.defers, u, w', h⟩
      case skip => exact ⟨a.defers, undef, w', h⟩
      case defer d => exact ⟨_, undef, w', h⟩
      case enter f args =>
        obtain ⟨e, w'', _, hR, _⟩ := h []
        cases e with
        | returned v => exact ⟨a.defers, v, w'', hR⟩
        | panicked c => exact hR.elim
        | outgrown => obtain ⟨_, _, hR⟩ := hR; exact hR.elim
      case row row args =>
        obtain ⟨v, w'', hR, _⟩ := h default []
        exact ⟨a.defers, v, w'', hR⟩
    | halt x w' => cases x <;> simp only [Oper.upon, QF] at h
  · exact ⟨a.defers, undef, w, h⟩

theorem loudOp_pull {oi oj : Oper} {v : Value} (hap : oi.apart ops oj = true) (hsj : ∀ cs b, oj.op ≠ .select cs b) {K : Act → World → Prop} {a : Act} {w : World}
    (h : loudOp P ops oj (fun a' w' => K (a'.put oi.dst v) w') a w) : loudOp P ops oj K (a.put oi.dst v) w := by
  obtain ⟨h1, h2, h3⟩ := Oper.apart_spec hap
  unfold loudOp at *
  rw [wanted_put oj a oi.dst v h1]
  split
  · rename_i hw
    simp only [hw, if_true] at h
    unfold Oper.wp at *
    rw [execOp_put oj hsj a oi.dst v h1]
    generalize (execOp a.eval oj).run P w = r at *
    cases r with
    | ok n w' =>
      cases n <;> simp only [Oper.upon] at h ⊢
      case value u => rw [Act.put_comm a v u h2]; exact h
      case skip => rw [Act.put_comm a v undef h2]; exact h
      case defer d => rw [Act.put_defers, Act.put_comm _ v undef h2]; exact h
      case enter f args =>
        refine Calls.mono h fun e w'' he => ?_
        cases e with
        | returned u => show K ((a.put oi.dst v).put oj.dst u) w''; rw [Act.put_comm a v u h2]; exact he
        | panicked c => exact he
        | outgrown => exact he
      case row row args => exact Rows.mono h fun u w'' he => by rw [Act.put_comm a v u h2]; exact he
    | halt x w' => cases x <;> simp only [Oper.upon] at h ⊢ <;> exact h
  · rename_i hw
    simp only [hw] at h
    rw [Act.put_comm a v undef h2]; exact h
theorem loudOp_push {oi oj : Oper} {v : Value} (hap : oi.apart ops oj = true) (hsj : ∀ cs b, oj.op ≠ .select cs b) {K : Act → World → Prop} {a : Act} {w : World}
    (h : loudOp P ops oj K (a.put oi.dst v) w) : loudOp P ops oj (fun a' w' => K (a'.put oi.dst v) w') a w := by
  obtain ⟨h1, h2, h3⟩ := Oper.apart_spec hap
  unfold loudOp at *
  rw [wanted_put oj a oi.dst v h1] at h
  split
  · rename_i hw
    simp only [hw, if_true] at h
    unfold Oper.wp at *
    rw [execOp_put oj hsj a oi.dst v h1] at h
    generalize (execOp a.eval oj).run P w = r at *
    cases r with
    | ok n w' =>
      cases n <;> simp only [Oper.upon] at h ⊢
      case value u => rw [← Act.put_comm a v u h2]; exact h
      case skip => rw [← Act.put_comm a v undef h2]; exact h
      case defer d => rw [← Act.put_comm _ v undef h2, ← Act.put_defers]; exact h
      case enter f args =>
        refine Calls.mono h fun e w'' he => ?_
        cases e with
        | returned u => show K ((a.put oj.dst u).put oi.dst v) w''; rw [← Act.put_comm a v u h2]; exact he
        | panicked c => exact he
        | outgrown => exact he
      case row row args => exact Rows.mono h fun u w'' he => by rw [← Act.put_comm a v u h2]; exact he
    | halt x w' => cases x <;> simp only [Oper.upon] at h ⊢ <;> exact h
  · rename_i hw
    simp only [hw] at h
    rw [← Act.put_comm a v undef h2]; exact h

/-- What operation j does not look at, it is calm without. -/
theorem Calm.put {o : Oper} {v : Value} {a : Act} (hs : ∀ cs b, o.op ≠ .select cs b) (hy : Calm P ops C o v a) {d : Option Tmp} (h : ∀ t, d = some t → t ∉ o.looksAt ops) (ds : List Deferred) (u : Value) :
    Calm P ops C o v (({ a with defers := ds } : Act).put d u) :=
  hy.of_same ((execOp_put o hs { a with defers := ds } d u h).trans rfl) ((wanted_put o { a with defers := ds } d u h).trans rfl)
theorem Calm.unput {o : Oper} {v : Value} {a : Act} (hs : ∀ cs b, o.op ≠ .select cs b) {d : Option Tmp} (h : ∀ t, d = some t → t ∉ o.looksAt ops) {ds : List Deferred} {u : Value}
    (hy : Calm P ops C o v (({ a with defers := ds } : Act).put d u)) : Calm P ops C o v a :=
  hy.of_same ((execOp_put o hs { a with defers := ds } d u h).trans rfl).symm ((wanted_put o { a with defers := ds } d u h).trans rfl).symm

/-! The plan of a region: L: the operations that are followed as they stand; D: those that are calm in every world; the others are calm in the class C, which holds till operation m. -/
structure Plan where
  L : List Nat
  D : List Nat
  m : Nat
def Plan.cls (p : Plan) (C : World → Prop) (i : Nat) : World → Prop := if p.D.contains i then fun _ => True else C
def stepC (P : Program) (ops : Array Oper) (p : Plan) (C : World → Prop) (i : Nat) (K : Act → World → Prop) (a : Act) (w : World) : Prop :=
  match ops[i]? with
  | none => K a w
  | some o => if p.L.contains i then loudOp P ops o K a w else ∃ v, Calm P ops (p.cls C i) o v a ∧ K (a.put o.dst v) w
theorem stepC_mono {p : Plan} {i : Nat} {K K' : Act → World → Prop} {a : Act} {w : World} (h : ∀ a w, K a w → K' a w) (hh : stepC P ops p C i K a w) : stepC P ops p C i K' a w := by
  unfold stepC at *
  split
  · simp_all
  · rename_i o ho
    simp only [ho] at hh
    split
    · rename_i hl; simp only [hl, if_true] at hh; exact loudOp_mono h hh
    · rename_i hl; simp only [hl] at hh; obtain ⟨v, h1, h2⟩ := hh; exact ⟨v, h1, h _ _ h2⟩

def wpAnyC (P : Program) (md : Region.Mode) (ops : Array Oper) (p : Plan) (C : World → Prop) (Q : Act → World → Prop) : Nat → Array Bool → Act → World → Prop
  | 0, listed, a, w => (listed.getD p.m false = false → C w) ∧ Region.ready md ops listed = [] ∧ Q a w
  | fuel + 1, listed, a, w => (listed.getD p.m false = false → C w) ∧ (Region.ready md ops listed = [] → Q a w) ∧
    ∀ i ∈ Region.ready md ops listed, stepC P ops p C i (wpAnyC P md ops p C Q fuel (listed.setIfInBounds i true)) a w

/-- In every state what is not loud and not calm everywhere comes before m. -/
def Plan.before (p : Plan) (md : Region.Mode) (ops : Array Oper) : Prop := ∀ i, i ∉ p.L → i ∉ p.D → i < ops.size → (ops.size ≤ p.m ∨ (i ≠ p.m ∧ Dep md ops i p.m))

theorem cls_holds {p : Plan} {listed : Array Bool} {i : Nat} {w : World} (hp : p.before md ops) (hc : Closed md ops listed) (hsz : listed.size = ops.size) (hl : i ∉ p.L) (hi : i < ops.size)
    (hun : listed.getD i false = false) (h : listed.getD p.m false = false → C w) : p.cls C i w := by
  unfold Plan.cls
  split
  · trivial
  · rename_i hd
    refine h ?_
    rcases hp i hl (by simpa using hd) hi with h1 | ⟨_, h1⟩
    · simp [Array.getElem?_eq_none (by omega : listed.size ≤ p.m)]
    · exact (hc.dep hun h1).1

theorem unl {listed : Array Bool} {i : Nat} (h : listed.getD i true = false) : listed.getD i false = false := by
  rcases Nat.lt_or_ge i listed.size with h' | h'
  · simp [h'] at h ⊢; exact h
  · simp [Array.getElem?_eq_none h'] at h

variable {Q : Act → World → Prop} {p : Plan}
theorem wpAnyC_C {fuel : Nat} {listed : Array Bool} {a : Act} {w : World} (h : wpAnyC P md ops p C Q fuel listed a w) : listed.getD p.m false = false → C w := by
  cases fuel with
  | zero => exact h.1
  | succ f => exact h.1

/-- A calm operation may be taken first. -/
theorem wpAnyC_first (hsel : ∀ (j : Nat) (o : Oper) cs b, ops[j]? = some o → o.op ≠ .select cs b) (hp : p.before md ops) {i : Nat} {oi : Oper} {v : Value} (hi : ops[i]? = some oi) (hiL : i ∉ p.L) :
    ∀ (fuel : Nat) (listed : Array Bool) (a : Act) (w : World), Closed md ops listed → listed.size = ops.size →
      (∀ j oj, ops[j]? = some oj → j ≠ i → listed.getD j true = false → (∀ e ∈ oj.after, Region.binds md e = true → e.on ≠ i) → oi.apart ops oj = true) →
      i ∈ Region.ready md ops listed → Calm P ops (p.cls C i) oi v a → (listed.getD p.m false = false → C w) → i ≠ p.m →
      wpAnyC P md ops p C Q fuel (listed.setIfInBounds i true) (a.put oi.dst v) w → wpAnyC P md ops p C Q (fuel + 1) listed a w := by
  have hsi := fun cs b => hsel i oi cs b hi
  have hilt : i < ops.size := (Array.getElem?_eq_some_iff.1 hi).1
  intro fuel
  induction fuel with
  | zero =>
    intro listed a w hcl hsz _ hr hy hC him H
    refine ⟨hC, fun h => (by rw [h] at hr; cases hr), fun j hj => ?_⟩
    by_cases hji : j = i
    · subst hji
      unfold stepC
      simp only [hi, show p.L.contains j = false by simpa using hiL, Bool.false_eq_true, if_false]
      exact ⟨v, hy, H⟩
    · have := ready_mono hj hji
      rw [H.2.1] at this
      cases this
  | succ fuel ih =>
    intro listed a w hcl hsz hfree hr hy hC him H
    refine ⟨hC, fun h => (by rw [h] at hr; cases hr), fun j hj => ?_⟩
    by_cases hji : j = i
    · subst hji
      unfold stepC
      simp only [hi, show p.L.contains j = false by simpa using hiL, Bool.false_eq_true, if_false]
      exact ⟨v, hy, H⟩
    · have h1 := H.2.2 j (ready_mono hj hji)
      obtain ⟨hjun, oj, hoj, hall⟩ := mem_ready.1 hj
      have hjlt : j < ops.size := (Array.getElem?_eq_some_iff.1 hoj).1
      have hiun : listed.getD i true = false := (mem_ready.1 hr).1
      have hnot : ∀ e ∈ oj.after, Region.binds md e = true → e.on ≠ i := fun e he hb heq => by
        have h1 := hall e he hb
        rw [heq, unl hiun] at h1; cases h1
      have hap := hfree j oj hoj hji hjun hnot
      obtain ⟨q1, q2, q3⟩ := Oper.apart_spec hap
      have hsj := fun cs b => hsel j oj cs b hoj
      have hcl' := hcl.set hj
      have hfree' : ∀ k ok, ops[k]? = some ok → k ≠ i → (listed.setIfInBounds j true).getD k true = false →
          (∀ e ∈ ok.after, Region.binds md e = true → e.on ≠ i) → oi.apart ops ok = true := fun k ok hk hki hun hno => by
        refine hfree k ok hk hki ?_ hno
        by_cases hjk : j = k
        · subst hjk; exact hjun
        · rw [getD_set_ne true hjk] at hun; exact hun
      have next : ∀ a' w', Calm P ops (p.cls C i) oi v a' → wpAnyC P md ops p C Q fuel ((listed.setIfInBounds i true).setIfInBounds j true) (a'.put oi.dst v) w' →
          wpAnyC P md ops p C Q (fuel + 1) (listed.setIfInBounds j true) a' w' := fun a' w' hy' h' => by
        rw [Array.setIfInBounds_comm _ _ (Ne.symm hji)] at h'
        refine ih _ a' w' hcl' (by simp [hsz]) hfree' (ready_mono hr (Ne.symm hji)) hy' ?_ him h'
        intro hm
        exact wpAnyC_C h' (by rw [getD_set_ne false him]; exact hm)
      unfold stepC at h1 ⊢
      simp only [hoj] at h1 ⊢
      split
      · rename_i hl
        simp only [hl, if_true] at h1
        have h2 := loudOp_push hap hsj h1
        have key : ∀ (K : Act → World → Prop), loudOp P ops oj K a w → loudOp P ops oj (fun a' w' => K a' w' ∧ Calm P ops (p.cls C i) oi v a') a w := fun K hK => by
          unfold loudOp at hK ⊢
          split
          · rename_i hw
            simp only [hw, if_true] at hK
            unfold Oper.wp at hK ⊢
            generalize (execOp a.eval oj).run P w = r at *
            cases r with
            | ok n w' =>
              cases n <;> simp only [Oper.upon] at hK ⊢
              case value u => exact ⟨hK, hy.put hsi q3 a.defers u⟩
              case skip => exact ⟨hK, hy.put hsi q3 a.defers _⟩
              case defer d => exact ⟨hK, hy.put hsi q3 _ _⟩
              case enter f args =>
                refine Calls.mono hK fun e w'' he => ?_
                cases e with
                | returned u => exact ⟨he, hy.put hsi q3 a.defers u⟩
                | panicked c => exact he
                | outgrown => exact he
              case row row args => exact Rows.mono hK fun u w'' he => ⟨he, hy.put hsi q3 a.defers u⟩
            | halt x w' => cases x <;> simp only [Oper.upon] at hK ⊢ <;> exact hK
          · rename_i hw
            simp only [hw] at hK
            exact ⟨hK, hy.put hsi q3 a.defers _⟩
        exact loudOp_mono (fun a' w' h3 => next a' w' h3.2 h3.1) (key _ h2)
      · rename_i hl
        simp only [hl] at h1
        obtain ⟨u, hu, hK⟩ := h1
        refine ⟨u, ?_, next _ w (hy.put hsi q3 a.defers u) ?_⟩
        · exact Calm.unput hsj (ds := a.defers) q1 hu
        · rw [← Act.put_comm a v u q2]; exact hK

/-- An operation that is followed as it stands may be taken first, if all others of its kind wait for it. -/
theorem wpAnyC_loud (hsel : ∀ (j : Nat) (o : Oper) cs b, ops[j]? = some o → o.op ≠ .select cs b) (hp : p.before md ops) (hmL : p.m < ops.size → p.m ∈ p.L) {k : Nat} {ok : Oper} (hk : ops[k]? = some ok) (hkL : k ∈ p.L) :
    ∀ (fuel : Nat) (listed : Array Bool) (a : Act) (w : World), Closed md ops listed → listed.size = ops.size →
      (∀ j oj, ops[j]? = some oj → j ≠ k → listed.getD j true = false → (∀ e ∈ oj.after, Region.binds md e = true → e.on ≠ k) → ok.apart ops oj = true) →
      (∀ j, j ∈ p.L → j ≠ k → j < ops.size → listed.getD j true = false → Dep md ops k j) →
      k ∈ Region.ready md ops listed → (listed.getD p.m false = false → C w) →
      stepC P ops p C k (wpAnyC P md ops p C Q fuel (listed.setIfInBounds k true)) a w → wpAnyC P md ops p C Q (fuel + 1) listed a w := by
  have hsk := fun cs b => hsel k ok cs b hk
  have hklt : k < ops.size := (Array.getElem?_eq_some_iff.1 hk).1
  have hkc : p.L.contains k = true := by simpa using hkL
  intro fuel
  induction fuel with
  | zero =>
    intro listed a w hcl hsz hfree hord hr hC H
    refine ⟨hC, fun h => (by rw [h] at hr; cases hr), fun i hi => ?_⟩
    by_cases hik : i = k
    · subst hik; exact H
    · exfalso
      unfold stepC at H
      simp only [hk, hkc, if_true] at H
      obtain ⟨ds, u, w', hK⟩ := loudOp_some H
      have := ready_mono hi hik
      rw [hK.2.1] at this
      cases this
  | succ f ih =>
    intro listed a w hcl hsz hfree hord hr hC H
    refine ⟨hC, fun h => (by rw [h] at hr; cases hr), fun i hi => ?_⟩
    by_cases hik : i = k
    · subst hik; exact H
    · obtain ⟨hiun, oi, hoi, hall⟩ := mem_ready.1 hi
      have hkun := (mem_ready.1 hr).1
      have hilt : i < ops.size := (Array.getElem?_eq_some_iff.1 hoi).1
      have hiL : i ∉ p.L := fun hL => (hcl.dep (unl hkun) (hord i hL hik hilt hiun)).2 hi
      have hic : p.L.contains i = false := by simpa using hiL
      have hnot : ∀ e ∈ oi.after, Region.binds md e = true → e.on ≠ k := fun e he hb heq => by
        have h1 := hall e he hb
        rw [heq, unl hkun] at h1; cases h1
      have hap := hfree i oi hoi hik hiun hnot
      obtain ⟨q1, q2, q3⟩ := Oper.apart_spec hap
      have hsi := fun cs b => hsel i oi cs b hoi
      have him : i ≠ p.m := fun e => hiL (e ▸ hmL (e ▸ hilt))
      unfold stepC at H
      simp only [hk, hkc, if_true] at H
      -- what i hands back
      obtain ⟨v, hv⟩ : ∃ v, Calm P ops (p.cls C i) oi v a := by
        obtain ⟨ds, u, w', hK⟩ := loudOp_some H
        have h2 := hK.2.2 i (ready_mono hi hik)
        unfold stepC at h2
        simp only [hoi, hic, Bool.false_eq_true, if_false] at h2
        obtain ⟨v, h3, _⟩ := h2
        exact ⟨v, Calm.unput hsi q1 h3⟩
      have hck : Closed md ops (listed.setIfInBounds k true) := hcl.set hr
      -- behind k, i is taken
      have H2 : loudOp P ops ok (fun a' w' => wpAnyC P md ops p C Q f ((listed.setIfInBounds k true).setIfInBounds i true) (a'.put oi.dst v) w') a w := by
        have key : ∀ (K : Act → World → Prop), loudOp P ops ok K a w → loudOp P ops ok (fun a' w' => K a' w' ∧ Calm P ops (p.cls C i) oi v a') a w := fun K hK => by
          unfold loudOp at hK ⊢
          split
          · rename_i hw
            simp only [hw, if_true] at hK
            unfold Oper.wp at hK ⊢
            generalize (execOp a.eval ok).run P w = r at *
            cases r with
            | ok n w' =>
              cases n <;> simp only [Oper.upon] at hK ⊢
              case value u => exact ⟨hK, hv.put hsi q1 a.defers u⟩
              case skip => exact ⟨hK, hv.put hsi q1 a.defers _⟩
              case defer d => exact ⟨hK, hv.put hsi q1 _ _⟩
              case enter f args =>
                refine Calls.mono hK fun e w'' he => ?_
                cases e with
                | returned u => exact ⟨he, hv.put hsi q1 a.defers u⟩
                | panicked c => exact he
                | outgrown => exact he
              case row row args => exact Rows.mono hK fun u w'' he => ⟨he, hv.put hsi q1 a.defers u⟩
            | halt x w' => cases x <;> simp only [Oper.upon] at hK ⊢ <;> exact hK
          · rename_i hw
            simp only [hw] at hK
            exact ⟨hK, hv.put hsi q1 a.defers _⟩
        refine loudOp_mono (fun a' w' h3 => ?_) (key _ H)
        obtain ⟨h3, hcalm⟩ := h3
        have h4 := h3.2.2 i (ready_mono hi hik)
        unfold stepC at h4
        simp only [hoi, hic, Bool.false_eq_true, if_false] at h4
        obtain ⟨v', h5, h6⟩ := h4
        have hun' : (listed.setIfInBounds k true).getD i false = false := by rw [getD_set_ne false (Ne.symm hik)]; exact unl hiun
        have : v' = v := h5.det (cls_holds hp hck (by simp [hsz]) hiL hilt hun' h3.1) hcalm
        rw [← this]; exact h6
      have H3 := loudOp_pull (K := wpAnyC P md ops p C Q f ((listed.setIfInBounds i true).setIfInBounds k true)) (w := w) (a := a) (v := v)
        (apart_symm hap) hsk (by
          rw [Array.setIfInBounds_comm _ _ hik]; exact H2)
      unfold stepC
      simp only [hoi, hic, Bool.false_eq_true, if_false]
      refine ⟨v, hv, ih _ _ w (hcl.set hi) (by simp [hsz]) ?_ ?_ (ready_mono hr (Ne.symm hik)) ?_ ?_⟩
      · intro j oj hj hjk hun hno
        refine hfree j oj hj hjk ?_ hno
        by_cases hij : i = j
        · subst hij; exact hiun
        · rw [getD_set_ne true hij] at hun; exact hun
      · intro j hjL hjk hjlt hun
        refine hord j hjL hjk hjlt ?_
        rw [getD_set_ne true (fun e => by subst e; exact hiL hjL)] at hun; exact hun
      · intro hm; rw [getD_set_ne false him] at hm; exact hC hm
      · unfold stepC
        simp only [hk, hkc, if_true]
        exact H3

/-! ### The text's order -/
/-- The walk in the text's order. -/
def wpC (P : Program) (ops : Array Oper) (p : Plan) (C : World → Prop) (Q : Act → World → Prop) : Nat → List Oper → Act → World → Prop
  | _, [], a, w => Q a w
  | k, o :: l, a, w =>
    if p.L.contains k then loudOp P ops o (fun a' w' => (k < p.m → C w') ∧ wpC P ops p C Q (k + 1) l a' w') a w
    else ∃ v, Calm P ops (p.cls C k) o v a ∧ (k < p.m → C w) ∧ wpC P ops p C Q (k + 1) l (a.put o.dst v) w

def Plan.okB (p : Plan) (md : Region.Mode) (ops : Array Oper) : Bool :=
  Region.lexB md ops && (decide (ops.size ≤ p.m) || p.L.contains p.m) &&
  (List.range ops.size).all fun i => if p.L.contains i then p.L.all fun k => decide (i ≤ k) || decide (ops.size ≤ k) || depB md ops k ops.size i
    else p.D.contains i || decide (ops.size ≤ p.m) || (i != p.m && depB md ops i ops.size p.m)

theorem wpAnyC_lex (hs : Region.noSelect ops = true) (hp : p.before md ops) (hmL : p.m < ops.size → p.m ∈ p.L)
    (hord : ∀ k j, k ∈ p.L → j ∈ p.L → k < j → j < ops.size → Dep md ops k j) : ∀ (l : List Oper) (k : Nat) (listed : Array Bool) (a : Act) (w : World), k + l.length = ops.size → (∀ j, l[j]? = ops[k + j]?) →
    Closed md ops listed → listed.size = ops.size → (∀ j, j < ops.size → listed.getD j false = decide (j < k)) →
    Region.lexFrom md ops l.length k listed = true → (k ≤ p.m → C w) → wpC P ops p C Q k l a w → wpAnyC P md ops p C Q l.length listed a w
  | [], k, listed, a, w, hk, hl, hcl, hsz, hlist, hB, hC, h => by
    simp at hk
    refine ⟨fun hm => hC ?_, by simpa [Region.lexFrom] using hB, h⟩
    rcases Nat.lt_or_ge p.m ops.size with h1 | h1
    · rw [hlist _ h1] at hm
      have := of_decide_eq_false hm
      omega
    · omega
  | o :: l, k, listed, a, w, hk, hl, hcl, hsz, hlist, hB, hC, h => by
    have h0 : ops[k]? = some o := by simpa using (hl 0).symm
    have hklt : k < ops.size := (Array.getElem?_eq_some_iff.1 h0).1
    simp only [List.length_cons] at hk
    simp only [List.length_cons, Region.lexFrom, Bool.and_eq_true] at hB
    obtain ⟨⟨hr, hf⟩, hB'⟩ := hB
    have hr' : k ∈ Region.ready md ops listed := by simpa using hr
    have hcl' := hcl.set hr'
    have hlist' : ∀ j, j < ops.size → (listed.setIfInBounds k true).getD j false = decide (j < k + 1) := fun j hj => by
      by_cases hjk : k = j
      · subst hjk; simp [hsz, hklt]
      · rw [getD_set_ne false hjk, hlist j hj]; simp; omega
    have hCw : listed.getD p.m false = false → C w := fun hm => hC (by
      rcases Nat.lt_or_ge p.m ops.size with h1 | h1
      · rw [hlist _ h1] at hm
        have := of_decide_eq_false hm
        omega
      · omega)
    have ih := fun a' w' (h' : (k < p.m → C w') ∧ wpC P ops p C Q (k + 1) l a' w') => wpAnyC_lex hs hp hmL hord l (k + 1) _ a' w' (by omega) (fun j => by have := hl (j + 1); simpa [Nat.add_assoc, Nat.add_comm 1 j] using this) hcl' (by simp [hsz]) hlist' hB' (fun hk => h'.1 hk) h'.2
    have hfree := Region.free_spec h0 hf
    by_cases hkL : k ∈ p.L
    · refine wpAnyC_loud (Region.noSelect_spec hs) hp hmL h0 hkL l.length listed a w hcl hsz hfree (fun j hjL hjk hjlt hun => hord k j hkL hjL ?_ hjlt) hr' hCw (stepC_mono ih (by unfold wpC at h; unfold stepC; simp only [h0]; simp only [show p.L.contains k = true by simpa using hkL, if_true] at h ⊢; exact h))
      have h1 := unl hun
      rw [hlist j hjlt] at h1
      have := of_decide_eq_false h1
      omega
    · have hkm : k ≠ p.m := fun e => hkL (e ▸ hmL (e ▸ hklt))
      unfold wpC at h
      simp only [show p.L.contains k = false by simpa using hkL, Bool.false_eq_true, if_false] at h
      obtain ⟨v, hy, hK⟩ := h
      exact wpAnyC_first (Region.noSelect_spec hs) hp h0 hkL l.length listed a w hcl hsz hfree hr' hy hCw hkm (ih _ _ hK)

theorem wpAny_of_C {Q' : Exit → Act → World → Prop} (hQ : ∀ a w, Q a w → Q' .normal a w) (hp : p.before md ops) : ∀ (fuel : Nat) (listed : Array Bool) (a : Act) (w : World), Closed md ops listed → listed.size = ops.size →
    wpAnyC P md ops p C Q fuel listed a w → wpAny P md ops Q' fuel listed a w
  | 0, _, _, _, _, _, h => ⟨h.2.1, hQ _ _ h.2.2⟩
  | fuel + 1, listed, a, w, hcl, hsz, h => ⟨fun h0 => hQ _ _ (h.2.1 h0), fun i hi => by
      have h1 := h.2.2 i hi
      obtain ⟨hiun, o, ho, _⟩ := mem_ready.1 hi
      have next := fun a' w' => wpAny_of_C hQ hp fuel (listed.setIfInBounds i true) a' w' (hcl.set hi) (by simp [hsz])
      unfold stepC at h1
      unfold wpOp
      simp only [ho] at h1 ⊢
      by_cases hl : p.L.contains i = true
      · simp only [hl, if_true] at h1
        unfold loudOp at h1
        split
        · rename_i hw
          simp only [hw, if_true] at h1
          refine .inl ?_
          unfold Oper.wp at *
          generalize (execOp a.eval o).run P w = r at *
          cases r with
          | ok n w' =>
            cases n <;> simp only [Oper.upon] at h1 ⊢
            case value u => exact next _ _ h1
            case skip => exact next _ _ h1
            case defer d => exact next _ _ h1
            case enter f args =>
              refine Calls.mono h1 fun e w'' he => ?_
              cases e with
              | returned u => exact next _ _ he
              | panicked c => exact he.elim
              | outgrown => obtain ⟨_, _, he⟩ := he; exact he.elim
            case row row args => exact Rows.mono h1 fun u w'' he => next _ _ he
          | halt x w' => cases x <;> simp only [Oper.upon, QF] at h1
        · rename_i hw
          simp only [hw] at h1
          exact next _ _ h1
      · simp only [hl] at h1
        obtain ⟨v, hy, hK⟩ := h1
        have hiL : i ∉ p.L := by simpa using hl
        have hilt : i < ops.size := (Array.getElem?_eq_some_iff.1 ho).1
        have hc := cls_holds hp hcl hsz hiL hilt (unl hiun) h.1
        rcases hy with ⟨hw, hv⟩ | ⟨hw, rfl⟩
        · simp only [hw, if_true]
          refine .inl ?_
          rcases hv w hc with hv1 | ⟨hv1, hu⟩
          · unfold Oper.wp; rw [hv1]; exact next _ _ hK
          · subst hu; unfold Oper.wp; rw [hv1]; exact next _ _ hK
        · simp only [hw, Bool.false_eq_true, if_false]; exact next _ _ hK⟩

/-- **A REGION THAT DRAWS ITS ORDER, WALKED IN THE TEXT's ORDER.** -/
theorem wp_region_text {id : Nat} {Q' : Exit → Act → World → Prop} {a : Act} {w : World} {l : List Oper} (p : Plan) (C : World → Prop) (hm : P.follows .mixedOrders = true) (hB : p.okB .any l.toArray = true)
    (hC : C w.drew) (h : wpC P l.toArray p C (fun a' w' => Q' .normal a' w') 0 l a w.drew) : (Code.region id l.toArray true).wp P Q' a w := by
  simp only [Plan.okB, Region.lexB, Bool.and_eq_true, Bool.or_eq_true, decide_eq_true_eq, List.all_eq_true, List.mem_range] at hB
  obtain ⟨⟨⟨hs, hlex⟩, hm'⟩, hall⟩ := hB
  have hmL : p.m < l.toArray.size → p.m ∈ p.L := fun h1 => by
    rcases hm' with h2 | h2
    · omega
    · simpa using h2
  have hbef : p.before .any l.toArray := fun i hiL hiD hilt => by
    have h1 := hall i hilt
    simp only [show p.L.contains i = false by simpa using hiL, show p.D.contains i = false by simpa using hiD, Bool.false_eq_true, if_false, Bool.false_or, Bool.or_eq_true, decide_eq_true_eq, Bool.and_eq_true, bne_iff_ne] at h1
    rcases h1 with h1 | h1
    · exact .inl h1
    · exact .inr ⟨h1.1, depB_spec _ _ h1.2⟩
  have hord : ∀ k j, k ∈ p.L → j ∈ p.L → k < j → j < l.toArray.size → Dep .any l.toArray k j := fun k j hk hj hkj hjlt => by
    have h1 := hall j hjlt
    simp only [show p.L.contains j = true by simpa using hj, if_true, List.all_eq_true, Bool.or_eq_true, decide_eq_true_eq] at h1
    rcases h1 k hk with (h2 | h2) | h2
    · omega
    · omega
    · exact depB_spec _ _ h2
  have hcl : Closed Region.Mode.any l.toArray (Array.replicate l.toArray.size false) := fun j o _ hl' => by
    rcases Nat.lt_or_ge j l.toArray.size with h1 | h1 <;> simp_all
  refine wp_region_any hm (wpAny_of_C (Q := fun a' w' => Q' .normal a' w') (p := p) (C := C) (fun _ _ h => h) hbef _ _ _ _ hcl (by simp) ?_)
  have := wpAnyC_lex (C := C) hs hbef hmL hord l 0 (Array.replicate l.toArray.size false) a { w with drawn := w.drawn + 1 } (by simp) (by simp) hcl (by simp)
    (fun j hj => by simp_all) (by simpa using hlex) (fun _ => hC) h
  simpa using this

/-! ### Its steps -/
def noEnter (o : Oper) : Bool := match o.op with
  | .call { callee := .builtin .len, .. } | .call { callee := .builtin .cap, .. } | .call { callee := .builtin .max, .. } | .call { callee := .builtin .min, .. } => true
  | .call _ | .go _ | .defer _ | .send .. | .recv .. | .select .. => false
  | _ => true
theorem v_run {s : Sem Value} {w w' : World} {f : FuncId} {args : Array Value} (h : (do pure (.value (← s)) : Sem Next).run P w = .ok (.enter f args) w') : False := by
  rw [Sem.run_bind] at h
  cases hs : s.run P w with
  | ok v w1 => rw [hs] at h; simp at h
  | halt x w1 => rw [hs] at h; simp at h
theorem u_run {s : Sem Unit} {w w' : World} {f : FuncId} {args : Array Value} (h : (do s; pure .skip : Sem Next).run P w = .ok (.enter f args) w') : False := by
  rw [Sem.run_bind] at h
  cases hs : s.run P w with
  | ok v w1 => rw [hs] at h; simp at h
  | halt x w1 => rw [hs] at h; simp at h
theorem noEnter_run {o : Oper} {ρ : Operand → Value} {w w' : World} {f : FuncId} {args : Array Value} (hn : noEnter o = true) : (execOp ρ o).run P w ≠ .ok (.enter f args) w' := by
  intro h
  obtain ⟨dst, op, type, pos, after, guard⟩ := o
  cases op
  case call c =>
    obtain ⟨callee, args', ts⟩ := c
    cases callee
    case builtin b =>
      cases b <;> simp [noEnter] at hn
      all_goals
        simp only [execOp, resolve, Sem.run_bind, Sem.run_pure, Result.andThen_ok, invoke, builtin] at h
        exact v_run (by rw [Sem.run_bind]; exact h)
    all_goals simp [noEnter] at hn
  all_goals first | (simp [noEnter] at hn; done) | skip
  case nilCheck x =>
    simp only [execOp] at h
    have hb : ∀ {α : Type} (s : Sem α) (g : α → Sem Next) (w : World), (∀ x w1, (g x).run P w1 ≠ .ok (.enter f args) w') → (s >>= g).run P w ≠ .ok (.enter f args) w' := fun s g w hg h => by
      rw [Sem.run_bind] at h
      cases hs : s.run P w with
      | ok v w1 => rw [hs] at h; exact hg v w1 h
      | halt x w1 => rw [hs] at h; simp at h
    have np : ∀ w, (runtimePanic (α := Next) .nilDeref).run P w ≠ .ok (.enter f args) w' := fun w => by
      unfold runtimePanic
      exact hb _ _ _ fun p w1 => by simp [goPanic, Sem.run]
    split at h
    any_goals exact np _ h
    · split at h
      · exact np _ h
      · revert h
        refine hb _ _ _ fun p w1 => hb _ _ _ fun b w2 => ?_
        split
        · exact hb _ _ _ fun _ w3 => by simp
        · simp
      · simp at h
    · simp at h
  case pick c a b =>
    simp only [execOp] at h
    rw [Sem.run_bind] at h
    cases hs : (asBool (ρ c)).run P w with
    | ok v w1 => rw [hs] at h; simp at h
    | halt x w1 => rw [hs] at h; simp at h
  all_goals simp only [execOp] at h
  all_goals first | exact v_run h | exact u_run h | (simp at h; done) | skip

theorem calm_of_quiet {o : Oper} {a : Act} {C : World → Prop} {v : Value} {w : World} (hn : noEnter o = true) (h : o.quietAt P a C w v) : calmAt P o a v w := by
  unfold Oper.quietAt at h
  unfold calmAt
  have hne := fun f args w' => noEnter_run (P := P) (ρ := a.eval) (w := w) (w' := w') (f := f) (args := args) hn
  generalize (execOp a.eval o).run P w = r at *
  cases r with
  | ok n w' =>
    cases n <;> simp only [Oper.quietUpon] at h
    case value u => obtain ⟨rfl, rfl⟩ := h; exact .inl rfl
    case skip => obtain ⟨rfl, rfl⟩ := h; exact .inr ⟨rfl, rfl⟩
    case enter f args => exact absurd rfl (hne f args w')
  | halt x w' => simp only [Oper.quietUpon] at h

/-- So many calm operations. 'd': calm in every world. -/
theorem wpC_seg {p : Plan} {Q : Act → World → Prop} {w : World} (d : Bool) (hC : C w) : ∀ (n k : Nat) (l : List Oper) (a : Act),
    ((List.range n).all fun j => !p.L.contains (k + j) && (p.D.contains (k + j) == d)) = true → (l.take n).all noEnter = true →
    wpQuiet P ops (if d then fun _ => True else C) (fun a' => wpC P ops p C Q (k + n) (l.drop n) a' w) (l.take n) a → wpC P ops p C Q k l a w
  | 0, k, l, a, _, _, h => by simpa [wpQuiet] using h
  | n + 1, k, [], a, _, _, h => by simp [wpQuiet, wpC] at h ⊢; exact h
  | n + 1, k, o :: l, a, hB, hn, h => by
    have h0 := List.all_eq_true.1 hB 0 (by simp)
    simp only [Nat.add_zero, Bool.and_eq_true, Bool.not_eq_true', beq_iff_eq] at h0
    simp only [List.take_succ_cons, List.all_cons, Bool.and_eq_true] at hn
    simp only [List.take_succ_cons, wpQuiet, List.drop_succ_cons] at h
    have hB' : ((List.range n).all fun j => !p.L.contains (k + 1 + j) && (p.D.contains (k + 1 + j) == d)) = true := by
      refine List.all_eq_true.2 fun j hj => ?_
      have := List.all_eq_true.1 hB (j + 1) (by simp at hj ⊢; omega)
      rwa [show k + (j + 1) = k + 1 + j by omega] at this
    have next := fun a' (h' : wpQuiet P ops (if d then fun _ => True else C) (fun a' => wpC P ops p C Q (k + (n + 1)) (l.drop n) a' w) (l.take n) a') =>
      wpC_seg d hC n (k + 1) l a' hB' hn.2 (by rw [show k + 1 + n = k + (n + 1) by omega]; exact h')
    have hcls : p.cls C k = (if d then fun _ => True else C) := by
      unfold Plan.cls; rw [h0.2]
    unfold wpC
    simp only [h0.1, Bool.false_eq_true, if_false]
    by_cases hw : Region.wanted o (yielded ops a.tmps) = true
    · simp only [hw, if_true] at h
      obtain ⟨v, h1, h2⟩ := h
      exact ⟨v, .inl ⟨hw, fun w' hw' => calm_of_quiet hn.1 (h1 w' (by rw [← hcls]; exact hw'))⟩, fun _ => hC, next _ h2⟩
    · simp only [hw] at h
      exact ⟨undef, .inr ⟨by simpa using hw, rfl⟩, fun _ => hC, next _ h⟩
/-- The same behind operation m: calm in every world. -/
theorem wpC_segD {p : Plan} {Q : Act → World → Prop} {w : World} : ∀ (n k : Nat) (l : List Oper) (a : Act),
    ((List.range n).all fun j => !p.L.contains (k + j) && p.D.contains (k + j) && decide (p.m ≤ k)) = true → (l.take n).all noEnter = true →
    wpQuiet P ops (fun _ => True) (fun a' => wpC P ops p C Q (k + n) (l.drop n) a' w) (l.take n) a → wpC P ops p C Q k l a w
  | 0, k, l, a, _, _, h => by simpa [wpQuiet] using h
  | n + 1, k, [], a, _, _, h => by simp [wpQuiet, wpC] at h ⊢; exact h
  | n + 1, k, o :: l, a, hB, hn, h => by
    have h0 := List.all_eq_true.1 hB 0 (by simp)
    simp only [Nat.add_zero, Bool.and_eq_true, Bool.not_eq_true', decide_eq_true_eq] at h0
    simp only [List.take_succ_cons, List.all_cons, Bool.and_eq_true] at hn
    simp only [List.take_succ_cons, wpQuiet, List.drop_succ_cons] at h
    have hB' : ((List.range n).all fun j => !p.L.contains (k + 1 + j) && p.D.contains (k + 1 + j) && decide (p.m ≤ k + 1)) = true := by
      refine List.all_eq_true.2 fun j hj => ?_
      have := List.all_eq_true.1 hB (j + 1) (by simp at hj ⊢; omega)
      rw [show k + (j + 1) = k + 1 + j by omega] at this
      simp only [Bool.and_eq_true, Bool.not_eq_true', decide_eq_true_eq] at this ⊢
      exact ⟨this.1, by omega⟩
    have next := fun a' (h' : wpQuiet P ops (fun _ => True) (fun a' => wpC P ops p C Q (k + (n + 1)) (l.drop n) a' w) (l.take n) a') =>
      wpC_segD n (k + 1) l a' hB' hn.2 (by rw [show k + 1 + n = k + (n + 1) by omega]; exact h')
    have hcls : p.cls C k = (fun _ => True) := by
      unfold Plan.cls; rw [if_pos h0.1.2]
    unfold wpC
    simp only [h0.1.1, Bool.false_eq_true, if_false]
    by_cases hw : Region.wanted o (yielded ops a.tmps) = true
    · simp only [hw, if_true] at h
      obtain ⟨v, h1, h2⟩ := h
      exact ⟨v, .inl ⟨hw, fun w' hw' => calm_of_quiet hn.1 (h1 w' trivial)⟩, fun hk => by omega, next _ h2⟩
    · simp only [hw] at h
      exact ⟨undef, .inr ⟨by simpa using hw, rfl⟩, fun hk => by omega, next _ h⟩
/-- An operation that is followed as it stands. -/
theorem wpC_loud {p : Plan} {Q : Act → World → Prop} {w : World} {k : Nat} {o : Oper} {l : List Oper} {a : Act} (hL : p.L.contains k = true) (hw : Region.wanted o (yielded ops a.tmps) = true)
    (h : ∀ K : Act → World → Prop, (∀ a' w', (k < p.m → C w') → wpC P ops p C Q (k + 1) l a' w' → K a' w') → o.wp P a w K QF) : wpC P ops p C Q k (o :: l) a w := by
  unfold wpC loudOp
  simp only [hL, hw, if_true]
  exact h _ fun a' w' h1 h2 => ⟨h1, h2⟩
/-- .. which its guard passes over. -/
theorem wpC_skip {p : Plan} {Q : Act → World → Prop} {w : World} {k : Nat} {o : Oper} {l : List Oper} {a : Act} (hL : p.L.contains k = true) (hw : Region.wanted o (yielded ops a.tmps) = false)
    (hC : k < p.m → C w) (h : wpC P ops p C Q (k + 1) l (a.put o.dst undef) w) : wpC P ops p C Q k (o :: l) a w := by
  unfold wpC loudOp
  simp only [hL, hw, if_true, Bool.false_eq_true, if_false]
  exact ⟨hC, h⟩
/-- .. whose run is known. -/
theorem wpC_value {p : Plan} {Q : Act → World → Prop} {w w' : World} {k : Nat} {o : Oper} {l : List Oper} {a : Act} {v : Value} (hL : p.L.contains k = true) (hw : Region.wanted o (yielded ops a.tmps) = true)
    (hr : (execOp a.eval o).run P w = .ok (.value v) w') (hC : k < p.m → C w') (h : wpC P ops p C Q (k + 1) l (a.put o.dst v) w') : wpC P ops p C Q k (o :: l) a w :=
  wpC_loud hL hw fun K hK => by unfold Oper.wp; rw [hr]; exact hK _ _ hC h
theorem wpC_store {p : Plan} {Q : Act → World → Prop} {w w' : World} {k : Nat} {o : Oper} {l : List Oper} {a : Act} (hL : p.L.contains k = true) (hw : Region.wanted o (yielded ops a.tmps) = true)
    (hr : (execOp a.eval o).run P w = .ok .skip w') (hC : k < p.m → C w') (h : wpC P ops p C Q (k + 1) l (a.put o.dst undef) w') : wpC P ops p C Q k (o :: l) a w :=
  wpC_loud hL hw fun K hK => by unfold Oper.wp; rw [hr]; exact hK _ _ hC h
theorem wpC_nil {p : Plan} {Q : Act → World → Prop} {w : World} {k : Nat} {a : Act} (h : Q a w) : wpC P ops p C Q k [] a w := h
/-- A class of worlds by an index of which nothing is known but the class's facts. -/
theorem classOf (F : World → Prop) {w : World} (hw : F w) : ∃ (X : Type) (f : X → World) (_ : Nonempty X), (∀ x, F (f x)) ∧ ∀ w, F w → ∃ x, w = f x :=
  ⟨{w : World // F w}, fun x => x.1, ⟨w, hw⟩, fun x => x.2, fun w h => ⟨⟨w, h⟩, rfl⟩⟩
end
end Go.Proofs.YtmaemgihhipllaaGreatDoor

/- sort.Search over a predicate that only reads. -/
namespace Go.Proofs.YtmaemgihhipllaaGreatDoor
set_option linter.unusedVariables false
set_option linter.unusedSimpArgs false
open Go.RowKit
/-- What sort.Search finds: the first place that the predicate holds at. -/
def Found (n : Nat) (pred : Nat → Bool) (w : World) (e : Ending) (w' : World) : Prop :=
  ∃ r : Nat, r ≤ n ∧ e = .returned (.int .i64 r) ∧ (∀ k, k < r → pred k = false) ∧ (∀ k, r ≤ k → k < n → pred k = true) ∧ ∃ m, w' = w.drewN m
set_option maxHeartbeats 400000 in
theorem search_any (n : Nat) (F : FuncId) (cap : Array Value) (pred : Nat → Bool) (w : World) (hn : n ≤ 4611686018427387904)
    (hcf : ∀ (w : World) (args : Array Value), (callFunc F args).run Tryz.prog w = .ok (.enter F args) w)
    (hF : ∀ i, i < n → ∀ m, Calls Tryz.prog F (#[.int .i64 i] ++ cap) (w.drewN m) fun e w' => e = .returned (.bool (pred i)) ∧ ∃ m', w' = (w.drewN m).drewN m')
    (mono : ∀ i j, i ≤ j → j < n → pred i = true → pred j = true) :
    Calls Tryz.prog 97 #[.int .i64 n, .func (.func F) #[] cap] w (Found n pred w) := by
  have HF := Lib.hid hF
  have HM := Lib.hid mono
  clear hF mono
  go_enter Tryz.func97, Tryz.ntmps97
  go_wp2_with fail
  go_loopw [5, 6, 7] (fun i j _ wr => ∃ a b : Nat, a ≤ b ∧ b ≤ n ∧ i = .int .i64 a ∧ j = .int .i64 b ∧ Hid ((∀ k, k < a → pred k = false) ∧ (∀ k, b ≤ k → k < n → pred k = true)) ∧ ∃ m, wr = w.drewN m) (fun i j _ _ => (intOf j - intOf i).toNat)
  case atStart => exact ⟨0, n, by omega, by omega, rfl, rfl, Lib.hid ⟨fun k hk => by omega, fun k h1 h2 => by omega⟩, 0, rfl⟩
  case round =>
    obtain ⟨a, b, hab, hbn, rfl, rfl, HI, m, rfl⟩ := hrel
    by_cases hlt : a < b
    · obtain ⟨h, hh⟩ : ∃ h : Nat, h = (a + b) / 2 := ⟨_, rfl⟩
      have hc := HF.out h (by omega) m
      rw [show ((h : Nat) : Int) = ((a : Int) + (b : Int)) / 2 by omega] at hc
      have HC := Lib.hid hc
      clear hc
      have HH := Lib.hid hh
      clear hh
      cases hp : pred h with
      | true =>
        rw [hp] at HC
        have HP := Lib.hid hp
        clear hp
        go_wp2_with fail
        refine HC.out.mono ?_
        rintro e w' ⟨rfl, m', rfl⟩
        go_wp2_with fail
        go_roundw
        case rel =>
          have hh := HH.out
          refine ⟨a, h, by omega, by omega, rfl, ?_, Lib.hid ⟨HI.out.1, fun k h1 h2 => HM.out h k h1 h2 HP.out⟩, m + m', by simp⟩
          rw [show ((h : Nat) : Int) = ((a : Int) + (b : Int)) / 2 by omega]
        case measure => simp [intOf]; omega
      | false =>
        rw [hp] at HC
        have HP := Lib.hid hp
        clear hp
        go_wp2_with fail
        refine HC.out.mono ?_
        rintro e w' ⟨rfl, m', rfl⟩
        go_wp2_with fail
        go_roundw
        case rel =>
          have hh := HH.out
          refine ⟨h + 1, b, by omega, by omega, ?_, rfl, Lib.hid ⟨fun k hk => ?_, HI.out.2⟩, m + m', by simp⟩
          · rw [show ((h + 1 : Nat) : Int) = ((a : Int) + (b : Int)) / 2 + 1 by omega]
          · cases hk' : pred k with
            | false => rfl
            | true =>
              have := HM.out k h (by omega) (by omega) hk'
              rw [HP.out] at this; cases this
        case measure => simp [intOf]; omega
    · have : b = a := by omega
      subst this
      go_wp2_with fail
      go_ret
      exact ⟨b, hbn, rfl, HI.out.1, HI.out.2, m, rfl⟩
end Go.Proofs.YtmaemgihhipllaaGreatDoor

/- Words that more than one layer needs: the block of a slice, slices that lie as they were, bytes appended. -/
namespace Go.Proofs.YtmaemgihhipllaaGreatDoor
set_option linter.unusedVariables false
set_option linter.unusedSimpArgs false
open Go.RowKit
def vblock : Value → Option Nat
  | .slice (some a) _ _ => some a.block
  | _ => none
theorem SliceIs.chg {w : World} {B : Nat} {e : TypeId} {v : Value} {n : Nat} {xs : List Value} (h : SliceIs w B e v n xs) {S : Nat → Prop} {w' : World} (hc : Chg S w w') (hn : ∀ k, vblock v = some k → ¬ S k) : SliceIs w' B e v n xs := by
  refine ⟨h.1, h.2.imp id ?_⟩
  rintro ⟨g, cap, cur, rfl, h2, h3, h4⟩
  exact ⟨g, cap, cur, rfl, h2, h3.keep hc (hn g rfl), h4⟩
theorem SliceIs.block_lt {w : World} {B : Nat} {e : TypeId} {v : Value} {n : Nat} {xs : List Value} (h : SliceIs w B e v n xs) {k : Nat} (hk : vblock v = some k) : B ≤ k ∧ k < w.heap.size := by
  rcases h.2 with ⟨rfl, rfl⟩ | ⟨g, cap, cur, rfl, h2, h3, h4⟩
  · cases hk
  · cases hk; exact ⟨h2, h3.lt⟩
theorem setCell_head {w : World} {r : Nat} {cs : Array Value} {E : TypeId} (h : w.heap[r]? = some (.cells cs E (0, 0))) (i : Nat) (v : Value) : (w.setCell ⟨r, i, none⟩ v).heap[r]? = some (.cells (cs.setIfInBounds i v) E (0, 0)) := by
  rw [setCell_eq_setRow w r i _ _ _ _ h]; exact heap_setRow h _
theorem SliceIs.mono {w : World} {B B' : Nat} {e : TypeId} {v : Value} {n : Nat} {xs : List Value} (h : SliceIs w B e v n xs) (hB : B' ≤ B) : SliceIs w B' e v n xs := by
  refine ⟨h.1, h.2.imp id ?_⟩
  rintro ⟨g, cap, cur, rfl, h2, h3⟩
  exact ⟨g, cap, cur, rfl, Nat.le_trans hB h2, h3⟩
theorem info_u8 : (Tryz.prog.info? 5).map (fun i => (i.zero, i.size, i.bytes)) = some (some (.int .u8 0), 1, 1) := by kernel_rfl
theorem append8 {w : World} {B n : Nat} {v : Value} {xs : List UInt8} (h : SliceIs w B 5 v n (xs.map u8v)) (hB : B ≤ w.heap.size) (x : UInt8) (hn : n + 1 ≤ 1000000000) :
    ∃ v' w', (Builtin.append_ #[82, 82] 82 #[v, .slice (some ⟨w.heap.size, 0, none⟩) 1 1]).run Tryz.prog (w.alloc (.cells #[u8v x] 5)) = .ok v' w' ∧ SliceIs w' B 5 v' (n + 1) ((xs ++ [x]).map u8v) ∧ Below B w w' := by
  obtain ⟨i0, g1, g2, g3, g4⟩ := info_parts info_u8
  have := run_append_one (P := Tryz.prog) (t := 82) (ty := 82) Tryz.underlying82 g1 g2 g3 g4 rfl h hB (u8v x) rfl (by unfold maxLen; omega) (by omega)
  rw [List.map_append]
  exact this
theorem u8v_of (n : Nat) : u8v (UInt8.ofNat n) = .int .u8 ((n : Int) % 256) := by
  simp [u8v]
/-- Append to a slice of an object's own: its row may have been written, or a new one has been made. -/
theorem run_append_own {P : Program} {w : World} {e : TypeId} {v : Value} {n : Nat} {xs : List Value} {t ty : TypeId} {i : TypeInfo} {z : Value} {bytes : Nat} (ht : P.underlying t = some (.slice e)) (hi : P.info? e = some i) (hz : i.zero = some z)
    (hsize : i.size = 1) (hby : i.bytes = bytes) (hzs : z.cells.size = 1) (h : SliceIs w 0 e v n xs)
    (a : Addr) (m c : Nat) (news : List Value) (hm : 0 < m) (hl : news.length = m) (hnews : ∀ j u, news[j]? = some u → w.cell? (a.add j) = some u) (h1 : ∀ u ∈ news, u.oneCell' = true)
    (h63 : n + m ≤ maxLen) (hbytes : (n + m) * bytes ≤ 140737488355328) :
    ∃ v' w', (Builtin.append_ #[t, t] ty #[v, .slice (some a) m c]).run P w = .ok v' w' ∧ SliceIs w' 0 e v' (n + m) (xs ++ news) ∧ Chg (fun k => vblock v = some k) w w' ∧ (vblock v' = vblock v ∨ ∃ k, vblock v' = some k ∧ w.heap.size ≤ k) := by
  have fin : ∀ (g : Option Nat) (olds : List Value) v' w', g = vblock v → olds = xs → Appended w e 1 g olds news (n + m) v' w' → SliceIs w' 0 e v' (n + m) (xs ++ news) ∧ Chg (fun k => vblock v = some k) w w' ∧ (vblock v' = vblock v ∨ ∃ k, vblock v' = some k ∧ w.heap.size ≤ k) := by
    rintro g olds v' w' rfl rfl ⟨g', cap', cur', rfl, q1, q2, q3, q4, q5, q6, q7⟩
    refine ⟨⟨by rw [List.length_append, h.1, hl], .inr ⟨g', cap', cur', rfl, Nat.zero_le _, q1, by omega, q3, q4, by rw [← q5, Nat.mul_one]⟩⟩, q7.mono fun k hk _ => hk.symm, q6.imp id fun h => ⟨g', rfl, h⟩⟩
  rcases h.2 with ⟨rfl, rfl⟩ | ⟨g, cap, cur, rfl, h2, h3, h4, h5, h6, h7⟩
  · obtain ⟨v', w', hr, hp⟩ := run_append_row_nil (P := P) w t ty e i z 1 bytes ht hi hz hsize hby hzs a m c news hm (by omega) hnews (by omega) (by simpa using hbytes)
    have hx : [] = xs := (List.eq_nil_of_length_eq_zero h.1).symm
    refine ⟨v', w', hr, fin none [] v' w' rfl hx ?_⟩
    rw [Nat.zero_add]; exact hp
  · obtain ⟨v', w', hr, hp⟩ := run_append_row (P := P) w t ty e i z 1 bytes ht hi hz hsize hby hzs g n cap cur h3 (by omega) h5 h6 a m c news (by omega) hnews h1 h63 hbytes
    exact ⟨v', w', hr, fin (some g) _ v' w' rfl (by rw [Nat.mul_one]; exact h7) hp⟩
theorem run_append_own1 {P : Program} {w : World} {e : TypeId} {v : Value} {n : Nat} {xs : List Value} {t ty : TypeId} {i : TypeInfo} {z : Value} {bytes : Nat} (ht : P.underlying t = some (.slice e)) (hi : P.info? e = some i) (hz : i.zero = some z)
    (hsize : i.size = 1) (hby : i.bytes = bytes) (hzs : z.cells.size = 1) (h : SliceIs w 0 e v n xs) (u : Value) (hu : u.oneCell' = true) (h63 : n + 1 ≤ maxLen) (hbytes : (n + 1) * bytes ≤ 140737488355328) :
    ∃ v' w', (Builtin.append_ #[t, t] ty #[v, .slice (some ⟨w.heap.size, 0, none⟩) 1 1]).run P (w.alloc (.cells #[u] e)) = .ok v' w' ∧ SliceIs w' 0 e v' (n + 1) (xs ++ [u]) ∧ Chg (fun k => vblock v = some k) w w' ∧ (vblock v' = vblock v ∨ ∃ k, vblock v' = some k ∧ w.heap.size ≤ k) := by
  have hb : Below w.heap.size w (w.alloc (.cells #[u] e)) := (Below.refl _ _).alloc (Nat.le_refl _) _
  obtain ⟨v', w', hr, h2, h3, h4⟩ := run_append_own (P := P) (ty := ty) ht hi hz hsize hby hzs (h.below hb) ⟨w.heap.size, 0, none⟩ 1 1 [u] (by omega) rfl (fun j x hx => by
    have hj : j = 0 := by have := (List.getElem?_eq_some_iff.1 hx).1; simpa using this
    subst hj
    rw [Addr.add_lit]
    refine cell_in (heap_new w _) ?_
    simpa using hx) (by simpa using hu) h63 hbytes
  exact ⟨v', w', hr, h2, (Chg.alloc (fun k => vblock v = some k) w _).trans h3 fun k hk _ => hk, h4.imp id fun ⟨k, e, hk⟩ => ⟨k, e, by simp at hk; omega⟩⟩
/-- The blocks behind a step: the old ones or new ones. -/
def Fresh (w : World) (F F' : Nat → Prop) : Prop := ∀ k, F' k → F k ∨ w.heap.size ≤ k
end Go.Proofs.YtmaemgihhipllaaGreatDoor

/- Slices that a call has made, of elements of so many cells. -/
namespace Go.Proofs.YtmaemgihhipllaaGreatDoor
set_option linter.unusedVariables false
set_option linter.unusedSimpArgs false
open Go.RowKit
/-- The slice value v holds n elements of z cells each, the cells xs; its row lies in a block from B on. -/
def SliceN (w : World) (B : Nat) (e : TypeId) (z : Nat) (v : Value) (n : Nat) (xs : List Value) : Prop :=
  xs.length = n * z ∧ ((v = .slice none 0 0 ∧ n = 0) ∨ ∃ g cap cur, v = .slice (some ⟨g, 0, none⟩) n cap ∧ B ≤ g ∧ RowAt w g e cur ∧ cur.size = cap * z ∧ n ≤ cap ∧ cap ≤ maxLen ∧ cur.toList.take (n * z) = xs)
theorem SliceN.nil (w : World) (B : Nat) (e : TypeId) (z : Nat) : SliceN w B e z (.slice none 0 0) 0 [] := ⟨by simp, .inl ⟨rfl, rfl⟩⟩
section
variable {w : World} {B : Nat} {e : TypeId} {z : Nat} {v : Value} {n : Nat} {xs : List Value}
theorem SliceN.chg (h : SliceN w B e z v n xs) {S : Nat → Prop} {w' : World} (hc : Chg S w w') (hn : ∀ k, vblock v = some k → ¬ S k) : SliceN w' B e z v n xs := by
  refine ⟨h.1, h.2.imp id ?_⟩
  rintro ⟨g, cap, cur, rfl, h2, h3, h4⟩
  exact ⟨g, cap, cur, rfl, h2, h3.keep hc (hn g rfl), h4⟩
theorem SliceN.below (h : SliceN w B e z v n xs) {w' : World} (hb : Below w.heap.size w w') : SliceN w' B e z v n xs := h.chg (Chg.of_below (fun _ => False) hb) fun _ _ => id
theorem SliceN.block_lt (h : SliceN w B e z v n xs) {k : Nat} (hk : vblock v = some k) : B ≤ k ∧ k < w.heap.size := by
  rcases h.2 with ⟨rfl, rfl⟩ | ⟨g, cap, cur, rfl, h2, h3, h4⟩
  · cases hk
  · cases hk; exact ⟨h2, h3.lt⟩
theorem SliceN.form (h : SliceN w B e z v n xs) : ∃ a cap, v = .slice a n cap ∧ n ≤ cap ∧ cap ≤ maxLen := by
  rcases h.2 with ⟨rfl, rfl⟩ | ⟨g, cap, cur, rfl, _, _, _, h5, h6, _⟩
  · exact ⟨none, 0, rfl, Nat.le_refl _, by unfold maxLen; omega⟩
  · exact ⟨_, cap, rfl, h5, h6⟩
theorem SliceN.mono (h : SliceN w B e z v n xs) {B' : Nat} (hB : B' ≤ B) : SliceN w B' e z v n xs := by
  refine ⟨h.1, h.2.imp id ?_⟩
  rintro ⟨g, cap, cur, rfl, h2, h3⟩
  exact ⟨g, cap, cur, rfl, Nat.le_trans hB h2, h3⟩
/-- A cell of it. -/
theorem SliceN.cell (h : SliceN w B e z v n xs) {g c m : Nat} (hv : v = .slice (some ⟨g, 0, none⟩) m c) {i : Nat} (hi : i < n * z) : w.cell? ⟨g, i, none⟩ = some (xs.getD i undef) := by
  rcases h.2 with ⟨rfl, rfl⟩ | ⟨g', cap, cur, rfl, _, h3, h4, h5, h6, h7⟩
  · cases hv
  · cases hv
    refine h3.cell ?_
    have e := congrArg (fun l => l[i]?) h7
    simp only [List.getElem?_take_of_lt hi, Array.getElem?_toList] at e
    have hl : i < xs.length := by rw [h.1]; exact hi
    rw [e]; simp [List.getD, hl]
theorem run_append_ownN {P : Program} {t ty : TypeId} {i : TypeInfo} {z0 : Value} {bytes : Nat} (ht : P.underlying t = some (.slice e)) (hi : P.info? e = some i) (hz : i.zero = some z0)
    (hsize : i.size = z) (hby : i.bytes = bytes) (hzs : z0.cells.size = z) (h : SliceN w B e z v n xs) (hB : B ≤ w.heap.size)
    (a : Addr) (m c : Nat) (news : List Value) (hm : 0 < m) (hl : news.length = m * z) (hnews : ∀ j u, news[j]? = some u → w.cell? (a.add j) = some u) (h1 : ∀ u ∈ news, u.oneCell' = true)
    (h63 : n + m ≤ maxLen) (hbytes : (n + m) * bytes ≤ 140737488355328) :
    ∃ v' w', (Builtin.append_ #[t, t] ty #[v, .slice (some a) m c]).run P w = .ok v' w' ∧ SliceN w' B e z v' (n + m) (xs ++ news) ∧ Chg (fun k => vblock v = some k) w w' ∧ (vblock v' = vblock v ∨ ∃ k, vblock v' = some k ∧ w.heap.size ≤ k) := by
  have fin : ∀ (g : Option Nat) (olds : List Value) v' w', g = vblock v → (∀ k, vblock v = some k → B ≤ k) → olds = xs → Appended w e z g olds news (n + m) v' w' → SliceN w' B e z v' (n + m) (xs ++ news) ∧ Chg (fun k => vblock v = some k) w w' ∧ (vblock v' = vblock v ∨ ∃ k, vblock v' = some k ∧ w.heap.size ≤ k) := by
    rintro g olds v' w' rfl hb rfl ⟨g', cap', cur', rfl, q1, q2, q3, q4, q5, q6, q7⟩
    refine ⟨⟨by rw [List.length_append, h.1, hl, Nat.add_mul], .inr ⟨g', cap', cur', rfl, ?_, q1, q2, q3, q4, q5⟩⟩, q7.mono fun k hk _ => hk.symm, q6.imp id fun h => ⟨g', rfl, h⟩⟩
    rcases q6 with q6 | q6
    · exact hb g' q6.symm
    · omega
  rcases h.2 with ⟨rfl, rfl⟩ | ⟨g, cap, cur, rfl, h2, h3, h4, h5, h6, h7⟩
  · obtain ⟨v', w', hr, hp⟩ := run_append_row_nil (P := P) w t ty e i z0 z bytes ht hi hz hsize hby hzs a m c news hm hl hnews (by omega) (by simpa using hbytes)
    have hx : [] = xs := (List.eq_nil_of_length_eq_zero (by rw [h.1]; simp)).symm
    refine ⟨v', w', hr, fin none [] v' w' rfl (fun k hk => by cases hk) hx ?_⟩
    rw [Nat.zero_add]; exact hp
  · obtain ⟨v', w', hr, hp⟩ := run_append_row (P := P) w t ty e i z0 z bytes ht hi hz hsize hby hzs g n cap cur h3 h4 h5 h6 a m c news hl hnews h1 h63 hbytes
    exact ⟨v', w', hr, fin (some g) _ v' w' rfl (fun k hk => by cases hk; exact h2) h7 hp⟩
/-- One element more, which the call has laid in a block of its own. -/
theorem run_append_oneN {P : Program} {t ty : TypeId} {i : TypeInfo} {z0 : Value} {bytes : Nat} (ht : P.underlying t = some (.slice e)) (hi : P.info? e = some i) (hz : i.zero = some z0)
    (hsize : i.size = z) (hby : i.bytes = bytes) (hzs : z0.cells.size = z) (h : SliceN w B e z v n xs) (hB : B ≤ w.heap.size) (us : List Value) (hu : us.length = z) (h1 : ∀ u ∈ us, u.oneCell' = true)
    (h63 : n + 1 ≤ maxLen) (hbytes : (n + 1) * bytes ≤ 140737488355328) :
    ∃ v' w', (Builtin.append_ #[t, t] ty #[v, .slice (some ⟨w.heap.size, 0, none⟩) 1 1]).run P (w.alloc (.cells us.toArray e)) = .ok v' w' ∧ SliceN w' B e z v' (n + 1) (xs ++ us) ∧ Chg (fun k => vblock v = some k) w w' ∧ (vblock v' = vblock v ∨ ∃ k, vblock v' = some k ∧ w.heap.size ≤ k) := by
  have hb : Below w.heap.size w (w.alloc (.cells us.toArray e)) := (Below.refl _ _).alloc (Nat.le_refl _) _
  obtain ⟨v', w', hr, h2, h3, h4⟩ := run_append_ownN (P := P) (ty := ty) ht hi hz hsize hby hzs (h.below hb) (by simp; omega) ⟨w.heap.size, 0, none⟩ 1 1 us (by omega) (by omega) (fun j x hx => by
    rw [Addr.add_lit, Nat.zero_add]
    refine cell_in (heap_new w _) ?_
    simpa using hx) h1 h63 hbytes
  exact ⟨v', w', hr, h2, (Chg.alloc (fun k => vblock v = some k) w _).trans h3 fun k hk _ => hk, h4.imp id fun ⟨k, e, hk⟩ => ⟨k, e, by simp at hk; omega⟩⟩
end
end Go.Proofs.YtmaemgihhipllaaGreatDoor

/-
  DERIVED: THE SHELF's CONTRACTS AT THIS DUMP, IN PLAIN WORDS (tools/lay-plain.mjs out of 'TryzShelf.lean', which tools/lay-shelf.mjs wrote): THE SAME DECLARATIONS UNDER THE SAME NAMES: 'import', 'namespace', 'open', 'def', 'theorem' AND NOTHING ELSE: no command of the shelf's: FOR A HAND-IN. Each laying: the table of numbers ('.._ren') and one theorem, a field a fact of the dump's own or the kernel's comparison; each contract: ONE APPLICATION.
-/
namespace Go.Proofs
open Go.Shelf
def Tryz.lays283_ren : Go.Shelf.Ren := ⟨fun | 283 => 103 | n => n, fun | 3 => 3 | 9 => 9 | 4 => 4 | n => n, fun | n => n⟩
theorem Tryz.lays283 : Go.Proofs.Lays.n283 Tryz.prog Tryz.lays283_ren := {
  mixed := by kernel_rfl
  f283 := Tryz.func103.trans (congrArg some (by kernel_rfl))
  t3 := Tryz.underlying3
  a3 := Tryz.isAgg3
  z3 := Tryz.sizeOf3
  v3 := Tryz.zeroValue3
  t4 := Tryz.underlying4
  a4 := Tryz.isAgg4
  z4 := Tryz.sizeOf4
  v4 := Tryz.zeroValue4
  t9 := Tryz.underlying9
  a9 := Tryz.isAgg9
  z9 := Tryz.sizeOf9
  v9 := Tryz.zeroValue9 }
def Tryz.laysM284_ren : Go.Shelf.Ren := ⟨fun | 284 => 104 | 129 => 119 | 317 => 118 | 318 => 120 | n => n, fun | 53 => 39 | 3 => 3 | 212 => 182 | 0 => 0 | 4 => 4 | 46 => 160 | 5 => 5 | 9 => 9 | n => n, fun | 17 => 1 | n => n⟩
theorem Tryz.laysM284 : Go.Proofs.LaysM.n284 Tryz.prog Tryz.laysM284_ren := {
  mixed := by kernel_rfl
  f129 := Tryz.func119.trans (congrArg some (by kernel_rfl))
  f284 := Tryz.func104.trans (congrArg some (by kernel_rfl))
  f317 := Tryz.func118.trans (congrArg some (by kernel_rfl))
  f318 := Tryz.func120.trans (congrArg some (by kernel_rfl))
  t0 := Tryz.underlying0
  a0 := Tryz.isAgg0
  z0 := Tryz.sizeOf0
  v0 := Tryz.zeroValue0
  t3 := Tryz.underlying3
  a3 := Tryz.isAgg3
  z3 := Tryz.sizeOf3
  v3 := Tryz.zeroValue3
  t4 := Tryz.underlying4
  a4 := Tryz.isAgg4
  z4 := Tryz.sizeOf4
  v4 := Tryz.zeroValue4
  t5 := Tryz.underlying5
  a5 := Tryz.isAgg5
  z5 := Tryz.sizeOf5
  v5 := Tryz.zeroValue5
  t9 := Tryz.underlying9
  a9 := Tryz.isAgg9
  z9 := Tryz.sizeOf9
  v9 := Tryz.zeroValue9
  t46 := Tryz.underlying160
  a46 := Tryz.isAgg160
  z46 := Tryz.sizeOf160
  v46 := Tryz.zeroValue160
  t53 := Tryz.underlying39
  a53 := Tryz.isAgg39
  z53 := Tryz.sizeOf39
  v53 := Tryz.zeroValue39
  t212 := Tryz.underlying182
  a212 := Tryz.isAgg182
  z212 := Tryz.sizeOf182
  v212 := Tryz.zeroValue182
  g17 := by kernel_rfl
  i0 := by kernel_rfl
  i3 := by kernel_rfl
  i4 := by kernel_rfl
  i5 := by kernel_rfl
  i9 := by kernel_rfl
  i46 := by kernel_rfl
  i53 := by kernel_rfl
  i212 := by kernel_rfl
  m17 := by kernel_rfl }
def Tryz.lays285_ren : Go.Shelf.Ren := ⟨fun | 285 => 105 | n => n, fun | 37 => 82 | 53 => 39 | 3 => 3 | 4 => 4 | 51 => 183 | 9 => 9 | 5 => 5 | 0 => 0 | n => n, fun | n => n⟩
theorem Tryz.lays285 : Go.Proofs.Lays.n285 Tryz.prog Tryz.lays285_ren := {
  mixed := by kernel_rfl
  f285 := Tryz.func105.trans (congrArg some (by kernel_rfl))
  t0 := Tryz.underlying0
  a0 := Tryz.isAgg0
  z0 := Tryz.sizeOf0
  v0 := Tryz.zeroValue0
  t3 := Tryz.underlying3
  a3 := Tryz.isAgg3
  z3 := Tryz.sizeOf3
  v3 := Tryz.zeroValue3
  t4 := Tryz.underlying4
  a4 := Tryz.isAgg4
  z4 := Tryz.sizeOf4
  v4 := Tryz.zeroValue4
  t5 := Tryz.underlying5
  a5 := Tryz.isAgg5
  z5 := Tryz.sizeOf5
  v5 := Tryz.zeroValue5
  t9 := Tryz.underlying9
  a9 := Tryz.isAgg9
  z9 := Tryz.sizeOf9
  v9 := Tryz.zeroValue9
  t37 := Tryz.underlying82
  a37 := Tryz.isAgg82
  z37 := Tryz.sizeOf82
  v37 := Tryz.zeroValue82
  t51 := Tryz.underlying183
  a51 := Tryz.isAgg183
  z51 := Tryz.sizeOf183
  v51 := Tryz.zeroValue183
  t53 := Tryz.underlying39
  a53 := Tryz.isAgg39
  z53 := Tryz.sizeOf39
  v53 := Tryz.zeroValue39 }
def Tryz.laysM171_ren : Go.Shelf.Ren := ⟨fun | 171 => 99 | 243 => 107 | 246 => 123 | 283 => 103 | 284 => 104 | 285 => 105 | 286 => 106 | 129 => 119 | 317 => 118 | 318 => 120 | 319 => 121 | 320 => 122 | 337 => 128 | 338 => 129 | n => n, fun | 3 => 3 | 9 => 9 | 2 => 2 | 4 => 4 | 171 => 169 | 0 => 0 | 53 => 39 | 37 => 82 | 5 => 5 | 173 => 172 | 212 => 182 | 51 => 183 | 20 => 20 | 213 => 184 | 46 => 160 | 232 => 198 | 233 => 199 | n => n, fun | 17 => 1 | 18 => 4 | 19 => 5 | n => n⟩
theorem Tryz.laysM171 : Go.Proofs.LaysM.n171 Tryz.prog Tryz.laysM171_ren := {
  mixed := by kernel_rfl
  f129 := Tryz.func119.trans (congrArg some (by kernel_rfl))
  f171 := Tryz.func99.trans (congrArg some (by kernel_rfl))
  f243 := Tryz.func107.trans (congrArg some (by kernel_rfl))
  f246 := Tryz.func123.trans (congrArg some (by kernel_rfl))
  f283 := Tryz.func103.trans (congrArg some (by kernel_rfl))
  f284 := Tryz.func104.trans (congrArg some (by kernel_rfl))
  f285 := Tryz.func105.trans (congrArg some (by kernel_rfl))
  f286 := Tryz.func106.trans (congrArg some (by kernel_rfl))
  f317 := Tryz.func118.trans (congrArg some (by kernel_rfl))
  f318 := Tryz.func120.trans (congrArg some (by kernel_rfl))
  f319 := Tryz.func121.trans (congrArg some (by kernel_rfl))
  f320 := Tryz.func122.trans (congrArg some (by kernel_rfl))
  f337 := Tryz.func128.trans (congrArg some (by kernel_rfl))
  f338 := Tryz.func129.trans (congrArg some (by kernel_rfl))
  t0 := Tryz.underlying0
  a0 := Tryz.isAgg0
  z0 := Tryz.sizeOf0
  v0 := Tryz.zeroValue0
  t2 := Tryz.underlying2
  a2 := Tryz.isAgg2
  z2 := Tryz.sizeOf2
  v2 := Tryz.zeroValue2
  t3 := Tryz.underlying3
  a3 := Tryz.isAgg3
  z3 := Tryz.sizeOf3
  v3 := Tryz.zeroValue3
  t4 := Tryz.underlying4
  a4 := Tryz.isAgg4
  z4 := Tryz.sizeOf4
  v4 := Tryz.zeroValue4
  t5 := Tryz.underlying5
  a5 := Tryz.isAgg5
  z5 := Tryz.sizeOf5
  v5 := Tryz.zeroValue5
  t9 := Tryz.underlying9
  a9 := Tryz.isAgg9
  z9 := Tryz.sizeOf9
  v9 := Tryz.zeroValue9
  t20 := Tryz.underlying20
  a20 := Tryz.isAgg20
  z20 := Tryz.sizeOf20
  v20 := Tryz.zeroValue20
  t37 := Tryz.underlying82
  a37 := Tryz.isAgg82
  z37 := Tryz.sizeOf82
  v37 := Tryz.zeroValue82
  t46 := Tryz.underlying160
  a46 := Tryz.isAgg160
  z46 := Tryz.sizeOf160
  v46 := Tryz.zeroValue160
  t51 := Tryz.underlying183
  a51 := Tryz.isAgg183
  z51 := Tryz.sizeOf183
  v51 := Tryz.zeroValue183
  t53 := Tryz.underlying39
  a53 := Tryz.isAgg39
  z53 := Tryz.sizeOf39
  v53 := Tryz.zeroValue39
  t171 := Tryz.underlying169
  a171 := Tryz.isAgg169
  z171 := Tryz.sizeOf169
  v171 := Tryz.zeroValue169
  t173 := Tryz.underlying172
  a173 := Tryz.isAgg172
  z173 := Tryz.sizeOf172
  v173 := Tryz.zeroValue172
  t212 := Tryz.underlying182
  a212 := Tryz.isAgg182
  z212 := Tryz.sizeOf182
  v212 := Tryz.zeroValue182
  t213 := Tryz.underlying184
  a213 := Tryz.isAgg184
  z213 := Tryz.sizeOf184
  t232 := Tryz.underlying198
  a232 := Tryz.isAgg198
  z232 := Tryz.sizeOf198
  v232 := Tryz.zeroValue198
  t233 := Tryz.underlying199
  a233 := Tryz.isAgg199
  z233 := Tryz.sizeOf199
  v233 := Tryz.zeroValue199
  g17 := by kernel_rfl
  g18 := by kernel_rfl
  g19 := by kernel_rfl
  i0 := by kernel_rfl
  i2 := by kernel_rfl
  i3 := by kernel_rfl
  i4 := by kernel_rfl
  i5 := by kernel_rfl
  i9 := by kernel_rfl
  i20 := by kernel_rfl
  i37 := by kernel_rfl
  i46 := by kernel_rfl
  i51 := by kernel_rfl
  i53 := by kernel_rfl
  i171 := by kernel_rfl
  i173 := by kernel_rfl
  i212 := by kernel_rfl
  i232 := by kernel_rfl
  i233 := by kernel_rfl
  m17 := by kernel_rfl
  m18 := by kernel_rfl
  m19 := by kernel_rfl }
def Tryz.laysPu14_ren : Go.Shelf.Ren := ⟨fun | 14 => 95 | 16 => 101 | 17 => 102 | 19 => 112 | 20 => 113 | 21 => 114 | 22 => 115 | 23 => 116 | 24 => 117 | 25 => 126 | 27 => 99 | 26 => 127 | 28 => 107 | 29 => 123 | 30 => 103 | 31 => 104 | 32 => 105 | 33 => 106 | 35 => 119 | 34 => 118 | 36 => 120 | 37 => 121 | 38 => 122 | 39 => 128 | 40 => 129 | n => n, fun | 9 => 9 | 3 => 3 | 22 => 39 | 24 => 162 | 25 => 163 | 4 => 4 | 34 => 175 | 5 => 5 | 36 => 160 | 37 => 82 | 0 => 0 | 39 => 178 | 21 => 21 | 44 => 191 | 47 => 194 | 50 => 197 | 48 => 195 | 2 => 2 | 52 => 169 | 55 => 172 | 59 => 182 | 60 => 183 | 20 => 20 | 61 => 184 | 65 => 198 | 66 => 199 | 67 => 200 | n => n, fun | 0 => 2 | 1 => 3 | 2 => 1 | 3 => 4 | 4 => 5 | n => n⟩
theorem Tryz.laysPu14 : Go.Proofs.LaysPu.n14 Tryz.prog Tryz.laysPu14_ren := {
  mixed := by kernel_rfl
  f14 := Tryz.func95.trans (congrArg some (by kernel_rfl))
  f16 := Tryz.func101.trans (congrArg some (by kernel_rfl))
  f17 := Tryz.func102.trans (congrArg some (by kernel_rfl))
  f19 := Tryz.func112.trans (congrArg some (by kernel_rfl))
  f20 := Tryz.func113.trans (congrArg some (by kernel_rfl))
  f21 := Tryz.func114.trans (congrArg some (by kernel_rfl))
  f22 := Tryz.func115.trans (congrArg some (by kernel_rfl))
  f23 := Tryz.func116.trans (congrArg some (by kernel_rfl))
  f24 := Tryz.func117.trans (congrArg some (by kernel_rfl))
  f25 := Tryz.func126.trans (congrArg some (by kernel_rfl))
  f26 := Tryz.func127.trans (congrArg some (by kernel_rfl))
  f27 := Tryz.func99.trans (congrArg some (by kernel_rfl))
  f28 := Tryz.func107.trans (congrArg some (by kernel_rfl))
  f29 := Tryz.func123.trans (congrArg some (by kernel_rfl))
  f30 := Tryz.func103.trans (congrArg some (by kernel_rfl))
  f31 := Tryz.func104.trans (congrArg some (by kernel_rfl))
  f32 := Tryz.func105.trans (congrArg some (by kernel_rfl))
  f33 := Tryz.func106.trans (congrArg some (by kernel_rfl))
  f34 := Tryz.func118.trans (congrArg some (by kernel_rfl))
  f35 := Tryz.func119.trans (congrArg some (by kernel_rfl))
  f36 := Tryz.func120.trans (congrArg some (by kernel_rfl))
  f37 := Tryz.func121.trans (congrArg some (by kernel_rfl))
  f38 := Tryz.func122.trans (congrArg some (by kernel_rfl))
  f39 := Tryz.func128.trans (congrArg some (by kernel_rfl))
  f40 := Tryz.func129.trans (congrArg some (by kernel_rfl))
  t0 := Tryz.underlying0
  a0 := Tryz.isAgg0
  z0 := Tryz.sizeOf0
  v0 := Tryz.zeroValue0
  i0 := by kernel_rfl
  t2 := Tryz.underlying2
  a2 := Tryz.isAgg2
  z2 := Tryz.sizeOf2
  v2 := Tryz.zeroValue2
  i2 := by kernel_rfl
  t3 := Tryz.underlying3
  a3 := Tryz.isAgg3
  z3 := Tryz.sizeOf3
  v3 := Tryz.zeroValue3
  i3 := by kernel_rfl
  t4 := Tryz.underlying4
  a4 := Tryz.isAgg4
  z4 := Tryz.sizeOf4
  v4 := Tryz.zeroValue4
  i4 := by kernel_rfl
  t5 := Tryz.underlying5
  a5 := Tryz.isAgg5
  z5 := Tryz.sizeOf5
  v5 := Tryz.zeroValue5
  i5 := by kernel_rfl
  t9 := Tryz.underlying9
  a9 := Tryz.isAgg9
  z9 := Tryz.sizeOf9
  v9 := Tryz.zeroValue9
  i9 := by kernel_rfl
  t20 := Tryz.underlying20
  a20 := Tryz.isAgg20
  z20 := Tryz.sizeOf20
  v20 := Tryz.zeroValue20
  i20 := by kernel_rfl
  t21 := Tryz.underlying21
  a21 := Tryz.isAgg21
  z21 := Tryz.sizeOf21
  v21 := Tryz.zeroValue21
  i21 := by kernel_rfl
  t22 := Tryz.underlying39
  a22 := Tryz.isAgg39
  z22 := Tryz.sizeOf39
  v22 := Tryz.zeroValue39
  i22 := by kernel_rfl
  t24 := Tryz.underlying162
  a24 := Tryz.isAgg162
  z24 := Tryz.sizeOf162
  v24 := Tryz.zeroValue162
  i24 := by kernel_rfl
  t25 := Tryz.underlying163
  a25 := Tryz.isAgg163
  z25 := Tryz.sizeOf163
  v25 := Tryz.zeroValue163
  i25 := by kernel_rfl
  t34 := Tryz.underlying175
  a34 := Tryz.isAgg175
  z34 := Tryz.sizeOf175
  v34 := Tryz.zeroValue175
  i34 := by kernel_rfl
  c34 := by kernel_rfl
  t36 := Tryz.underlying160
  a36 := Tryz.isAgg160
  z36 := Tryz.sizeOf160
  v36 := Tryz.zeroValue160
  i36 := by kernel_rfl
  t37 := Tryz.underlying82
  a37 := Tryz.isAgg82
  z37 := Tryz.sizeOf82
  v37 := Tryz.zeroValue82
  i37 := by kernel_rfl
  t39 := Tryz.underlying178
  a39 := Tryz.isAgg178
  z39 := Tryz.sizeOf178
  v39 := Tryz.zeroValue178
  i39 := by kernel_rfl
  t44 := Tryz.underlying191
  a44 := Tryz.isAgg191
  z44 := Tryz.sizeOf191
  v44 := Tryz.zeroValue191
  i44 := by kernel_rfl
  t47 := Tryz.underlying194
  a47 := Tryz.isAgg194
  z47 := Tryz.sizeOf194
  v47 := Tryz.zeroValue194
  i47 := by kernel_rfl
  t48 := Tryz.underlying195
  a48 := Tryz.isAgg195
  z48 := Tryz.sizeOf195
  v48 := Tryz.zeroValue195
  i48 := by kernel_rfl
  t50 := Tryz.underlying197
  a50 := Tryz.isAgg197
  z50 := Tryz.sizeOf197
  v50 := Tryz.zeroValue197
  i50 := by kernel_rfl
  t52 := Tryz.underlying169
  a52 := Tryz.isAgg169
  z52 := Tryz.sizeOf169
  v52 := Tryz.zeroValue169
  i52 := by kernel_rfl
  t55 := Tryz.underlying172
  a55 := Tryz.isAgg172
  z55 := Tryz.sizeOf172
  v55 := Tryz.zeroValue172
  i55 := by kernel_rfl
  t59 := Tryz.underlying182
  a59 := Tryz.isAgg182
  z59 := Tryz.sizeOf182
  v59 := Tryz.zeroValue182
  i59 := by kernel_rfl
  t60 := Tryz.underlying183
  a60 := Tryz.isAgg183
  z60 := Tryz.sizeOf183
  v60 := Tryz.zeroValue183
  i60 := by kernel_rfl
  t61 := Tryz.underlying184
  a61 := Tryz.isAgg184
  z61 := Tryz.sizeOf184
  t65 := Tryz.underlying198
  a65 := Tryz.isAgg198
  z65 := Tryz.sizeOf198
  v65 := Tryz.zeroValue198
  i65 := by kernel_rfl
  t66 := Tryz.underlying199
  a66 := Tryz.isAgg199
  z66 := Tryz.sizeOf199
  v66 := Tryz.zeroValue199
  i66 := by kernel_rfl
  t67 := Tryz.underlying200
  a67 := Tryz.isAgg200
  z67 := Tryz.sizeOf200
  v67 := Tryz.zeroValue200
  i67 := by kernel_rfl
  g0 := by kernel_rfl
  m0 := by kernel_rfl
  g1 := by kernel_rfl
  m1 := by kernel_rfl
  g2 := by kernel_rfl
  m2 := by kernel_rfl
  g3 := by kernel_rfl
  m3 := by kernel_rfl
  g4 := by kernel_rfl
  m4 := by kernel_rfl }
def Tryz.lays145_ren : Go.Shelf.Ren := ⟨fun | 145 => 85 | 220 => 94 | 219 => 100 | 217 => 108 | 225 => 109 | 224 => 110 | 267 => 111 | 266 => 124 | 314 => 125 | n => n, fun | 9 => 9 | 4 => 4 | 59 => 147 | 3 => 3 | 5 => 5 | 46 => 160 | 146 => 187 | 51 => 183 | n => n, fun | 1 => 0 | n => n⟩
theorem Tryz.lays145 : Go.Proofs.Lays.n145 Tryz.prog Tryz.lays145_ren := {
  mixed := by kernel_rfl
  f145 := Tryz.func85.trans (congrArg some (by kernel_rfl))
  f217 := Tryz.func108.trans (congrArg some (by kernel_rfl))
  f219 := Tryz.func100.trans (congrArg some (by kernel_rfl))
  f220 := Tryz.func94.trans (congrArg some (by kernel_rfl))
  f224 := Tryz.func110.trans (congrArg some (by kernel_rfl))
  f225 := Tryz.func109.trans (congrArg some (by kernel_rfl))
  f266 := Tryz.func124.trans (congrArg some (by kernel_rfl))
  f267 := Tryz.func111.trans (congrArg some (by kernel_rfl))
  f314 := Tryz.func125.trans (congrArg some (by kernel_rfl))
  t3 := Tryz.underlying3
  a3 := Tryz.isAgg3
  z3 := Tryz.sizeOf3
  v3 := Tryz.zeroValue3
  t4 := Tryz.underlying4
  a4 := Tryz.isAgg4
  z4 := Tryz.sizeOf4
  v4 := Tryz.zeroValue4
  t5 := Tryz.underlying5
  a5 := Tryz.isAgg5
  z5 := Tryz.sizeOf5
  v5 := Tryz.zeroValue5
  t9 := Tryz.underlying9
  a9 := Tryz.isAgg9
  z9 := Tryz.sizeOf9
  v9 := Tryz.zeroValue9
  t46 := Tryz.underlying160
  a46 := Tryz.isAgg160
  z46 := Tryz.sizeOf160
  v46 := Tryz.zeroValue160
  t51 := Tryz.underlying183
  a51 := Tryz.isAgg183
  z51 := Tryz.sizeOf183
  v51 := Tryz.zeroValue183
  t59 := Tryz.underlying147
  a59 := Tryz.isAgg147
  z59 := Tryz.sizeOf147
  v59 := Tryz.zeroValue147
  t146 := Tryz.underlying187
  a146 := Tryz.isAgg187
  z146 := Tryz.sizeOf187
  v146 := Tryz.zeroValue187
  g1 := by kernel_rfl }
def Tryz.laysM145_ren : Go.Shelf.Ren := ⟨fun | 145 => 85 | 220 => 94 | 219 => 100 | 217 => 108 | 225 => 109 | 224 => 110 | 267 => 111 | 266 => 124 | 314 => 125 | n => n, fun | 9 => 9 | 4 => 4 | 59 => 147 | 3 => 3 | 5 => 5 | 46 => 160 | 146 => 187 | 51 => 183 | n => n, fun | 1 => 0 | n => n⟩
theorem Tryz.laysM145 : Go.Proofs.LaysM.n145 Tryz.prog Tryz.laysM145_ren := {
  mixed := by kernel_rfl
  f145 := Tryz.func85.trans (congrArg some (by kernel_rfl))
  f217 := Tryz.func108.trans (congrArg some (by kernel_rfl))
  f219 := Tryz.func100.trans (congrArg some (by kernel_rfl))
  f220 := Tryz.func94.trans (congrArg some (by kernel_rfl))
  f224 := Tryz.func110.trans (congrArg some (by kernel_rfl))
  f225 := Tryz.func109.trans (congrArg some (by kernel_rfl))
  f266 := Tryz.func124.trans (congrArg some (by kernel_rfl))
  f267 := Tryz.func111.trans (congrArg some (by kernel_rfl))
  f314 := Tryz.func125.trans (congrArg some (by kernel_rfl))
  t3 := Tryz.underlying3
  a3 := Tryz.isAgg3
  z3 := Tryz.sizeOf3
  v3 := Tryz.zeroValue3
  t4 := Tryz.underlying4
  a4 := Tryz.isAgg4
  z4 := Tryz.sizeOf4
  v4 := Tryz.zeroValue4
  t5 := Tryz.underlying5
  a5 := Tryz.isAgg5
  z5 := Tryz.sizeOf5
  v5 := Tryz.zeroValue5
  t9 := Tryz.underlying9
  a9 := Tryz.isAgg9
  z9 := Tryz.sizeOf9
  v9 := Tryz.zeroValue9
  t46 := Tryz.underlying160
  a46 := Tryz.isAgg160
  z46 := Tryz.sizeOf160
  v46 := Tryz.zeroValue160
  t51 := Tryz.underlying183
  a51 := Tryz.isAgg183
  z51 := Tryz.sizeOf183
  v51 := Tryz.zeroValue183
  t59 := Tryz.underlying147
  a59 := Tryz.isAgg147
  z59 := Tryz.sizeOf147
  v59 := Tryz.zeroValue147
  t146 := Tryz.underlying187
  a146 := Tryz.isAgg187
  z146 := Tryz.sizeOf187
  v146 := Tryz.zeroValue187
  g1 := by kernel_rfl
  i3 := by kernel_rfl
  i4 := by kernel_rfl
  i5 := by kernel_rfl
  i9 := by kernel_rfl
  i46 := by kernel_rfl
  i51 := by kernel_rfl
  i59 := by kernel_rfl
  i146 := by kernel_rfl
  m1 := by kernel_rfl
  s1_3 := fun w h => Go.Proofs.cell_of_shapedOpen_int (zero := #[.int .i64 0]) (t := 3) h (of_decide_eq_true (by kernel_rfl)) (by kernel_rfl) rfl (by kernel_rfl) (by kernel_rfl) Tryz.underlying3 }
open Go.Lib in
/-- internal/strconv.small: "small returns the string for an i with 0 <= i < nSmalls.": i's decimal numeral. The world is as it was. (LAID: no walk: one application.) -/
theorem Tryz.internal_strconv_small (i : Nat) (h : i < 100) (w : World) :
    Calls Tryz.prog 103 #[.int .i64 i] w fun e w' => e = .returned (.string ⟨(Lib.decDigits i).toArray⟩) ∧ w' = w := Any.internal_strconv_small Tryz.lays283 i h w
open Go.Lib in
/-- internal/strconv.numDigits, at a d that is not 0: THE NUMBER OF d's DECIMAL DIGITS. The world is as it was. (LAID: no walk: one application.) -/
theorem Tryz.internal_strconv_numDigits (u : Nat) (h1 : 1 ≤ u) (h2 : u < 18446744073709551616) (w : World) (htab : Lib.TabIs Tryz.prog w "internal/strconv.uint64pow10" .u64 Lib.pow10Tab) :
    Calls Tryz.prog 104 #[.int .u64 u] w fun e w' => e = .returned (.int .i64 (Lib.nDigits u)) ∧ w' = w := Any.internal_strconv_numDigits Tryz.laysM284 u h1 h2 w htab
open Go.RowKit Go.Sort Go.Lib in
/-- internal/strconv.formatBase10: "formatBase10 formats the decimal representation of u into a. The caller is responsible for ensuring that a is big enough to hold u. If a is too big, leading zeros will be filled in as needed.": THE ROW HOLDS u's DIGITS ('FmtInv .. 0 ..': every place t holds 'dg u (len - 1 - t)'); all else is as it was but for the count of draws. (LAID: no walk: one application.) -/
theorem Tryz.internal_strconv_formatBase10 (blk off cap : Nat) (u : Nat) (d : Array UInt8) (w : World) (hH : Holds (fun (b : UInt8) => Value.int .u8 (b.toNat : Int)) w blk off d) (hu : u < 10 ^ d.size) (hu64 : u < 18446744073709551616) (hsz : d.size < 4611686018427387904) :
    Calls Tryz.prog 105 #[.slice (some ⟨blk, off, none⟩) d.size cap, .int .u64 u] w fun e w' =>
      e = .returned (.tuple #[]) ∧ ∃ (n v' : Nat) (dk : Array UInt8), w' = (putRow (fun (b : UInt8) => Value.int .u8 (b.toNat : Int)) w blk off dk).drewN n ∧ FmtInv d.size u 0 v' dk := Any.internal_strconv_formatBase10 Tryz.lays285 blk off cap u d w hH hu hu64 hsz
open Go.RowKit Go.Sort Go.Lib in
/-- strconv.Itoa: "Itoa is equivalent to FormatInt(int64(i), 10).": i's DECIMAL NUMERAL ('Lib.itoa': a '-' where i is negative, then the digits), FOR EVERY int. The world behind the call: the world before it, new blocks behind the heap (the library's 'var a [24]byte'), draws. (LAID: no walk: one application.) -/
theorem Tryz.strconv_Itoa (n : Int) (h0 : -9223372036854775808 ≤ n) (h1 : n ≤ 9223372036854775807) (w : World) (htab : Lib.TabIs Tryz.prog w "internal/strconv.uint64pow10" .u64 Lib.pow10Tab) :
    Calls Tryz.prog 99 #[.int .i64 n] w fun e w' => e = .returned (.string ⟨(Lib.itoa n).toArray⟩) ∧ ∃ k os, w' = grow (w.drewN k) os := Any.strconv_Itoa Tryz.laysM171 n h0 h1 w htab
open Go.RowKit in
/-- strconv.ParseUint(s, 10, 64), AT EVERY STRING THAT SPELLS A uint64 ('Lib.parseUintB 64 s.data.toList = .ok u'): u, AND NO ERROR. (LAID: no walk: one application.) -/
theorem Tryz.strconv_ParseUint_10_at64_ok (s : ByteArray) (hmax : s.size ≤ 9223372036854775806) (u : Nat) (h : Lib.parseUintB 64 s.data.toList = .ok u) (w : World) :
    Calls Tryz.prog 95 #[.string s, .int .i64 10, .int .i64 64] w fun e w' => e = .returned (.tuple #[.int .u64 u, .nilIface]) ∧ (w' = w ∨ w' = Lib.bytesWorld w 5 s) := Any.strconv_ParseUint_10_at64_ok Tryz.laysPu14 s hmax u h w
open Go.RowKit in
theorem Tryz.strconv_ParseUint_10_at64_syntax_var (s : ByteArray) (hlim : s.size ≤ 281474976710656) (h : Lib.parseUintB 64 s.data.toList = Lib.parseUintB 64 []) (tp : TypeId) (p : Value) (w : World) (hvar : w.var? Tryz.prog "strconv.ErrSyntax" = some #[.iface tp p]) :
    Calls Tryz.prog 95 #[.string s, .int .i64 10, .int .i64 64] w fun e w' => ∃ N, e = .returned (.tuple #[.int .u64 0, .iface 178 (.pointer (some ⟨N, 0, none⟩))]) ∧ w.heap.size ≤ N ∧ w'.heap[N]? = some (.cells #[.string ⟨#[80, 97, 114, 115, 101, 85, 105, 110, 116]⟩, .string s, .iface tp p] 191 (0, 0)) ∧ Below w.heap.size w w' := Any.strconv_ParseUint_10_at64_syntax_var Tryz.laysPu14 s hlim h tp p w hvar
open Go.RowKit in
theorem Tryz.strconv_ParseUint_10_at64_range_var (s : ByteArray) (hlim : s.size ≤ 281474976710656) (h : Lib.parseUintB 64 s.data.toList = .range) (tp : TypeId) (p : Value) (w : World) (hvar : w.var? Tryz.prog "strconv.ErrRange" = some #[.iface tp p]) :
    Calls Tryz.prog 95 #[.string s, .int .i64 10, .int .i64 64] w fun e w' => ∃ N, e = .returned (.tuple #[.int .u64 18446744073709551615, .iface 178 (.pointer (some ⟨N, 0, none⟩))]) ∧ w.heap.size ≤ N ∧ w'.heap[N]? = some (.cells #[.string ⟨#[80, 97, 114, 115, 101, 85, 105, 110, 116]⟩, .string s, .iface tp p] 191 (0, 0)) ∧ Below w.heap.size w w' := Any.strconv_ParseUint_10_at64_range_var Tryz.laysPu14 s hlim h tp p w hvar
open Go.RowKit Go.Lib in
/-- strings.Cut: "Cut slices s around the first instance of sep, returning the text before and after sep. The found result reports whether sep appears in s. If sep does not appear in s, cut returns s, "", false.": IT RETURNS 'Lib.cut s sep'; the world is as it was but for the count of draws. (LAID: no walk: one application.) -/
theorem Tryz.strings_Cut (s sep : ByteArray) (m : Int) (w : World) (hs : s.size < 4294967281) (hm : w.cell? ⟨0, 0, none⟩ = some (.int .i64 m)) :
    Calls Tryz.prog 85 #[.string s, .string sep] w fun e w' => e = .returned (.tuple #[.string ⟨(Lib.cut s.data.toList sep.data.toList).1.toArray⟩, .string ⟨(Lib.cut s.data.toList sep.data.toList).2.1.toArray⟩, .bool (Lib.cut s.data.toList sep.data.toList).2.2]) ∧ ∃ n, w' = w.drewN n := Any.strings_Cut Tryz.lays145 s sep m w hs hm
open Go.RowKit Go.Lib in
theorem Tryz.strings_Cut_shaped (s sep : ByteArray) (w : World) (h : w.ShapedOpen Tryz.prog) (hs : s.size < 4294967281) :
    Calls Tryz.prog 85 #[.string s, .string sep] w fun e w' => e = .returned (.tuple #[.string ⟨(Lib.cut s.data.toList sep.data.toList).1.toArray⟩, .string ⟨(Lib.cut s.data.toList sep.data.toList).2.1.toArray⟩, .bool (Lib.cut s.data.toList sep.data.toList).2.2]) ∧ ∃ n, w' = w.drewN n := Any.strings_Cut_shaped Tryz.laysM145 s sep w h hs
end Go.Proofs

/- what the library's variables hold, at a seat whose rows lay them. -/
namespace Go.Proofs.YtmaemgihhipllaaGreatDoor
set_option linter.unusedVariables false
set_option linter.unusedSimpArgs false
open Go.RowKit Go.Sort Go.Lib
theorem var_below {P : Program} {w w' : World} {name : String} {r : Array Value} (h : w.var? P name = some r) (hb : Below w.heap.size w w') : w'.var? P name = some r := by
  unfold World.var? at *
  cases hg : P.globalNamed name with
  | none => simp [hg] at h
  | some g =>
    simp only [hg, Option.bind_some] at h ⊢
    have hlt : g < w.heap.size := by
      rcases Nat.lt_or_ge g w.heap.size with h' | h'
      · exact h'
      · rw [Array.getElem?_eq_none h'] at h; simp at h
    rw [hb.block g hlt]
    exact h
/-- What the library's variables hold. -/
structure Laid (w : World) : Prop where
  tab : Lib.TabIs Tryz.prog w "internal/strconv.uint64pow10" .u64 Lib.pow10Tab
  syn : ∃ tp p, w.var? Tryz.prog "strconv.ErrSyntax" = some #[.iface tp p]
  rng : ∃ tp p, w.var? Tryz.prog "strconv.ErrRange" = some #[.iface tp p]
  max : ∃ m, w.cell? ⟨0, 0, none⟩ = some (.int .i64 m)
theorem Laid.below {w w' : World} (h : Laid w) (hb : Below w.heap.size w w') : Laid w' := by
  refine { tab := Lib.tabBelow_of_tabIs h.tab w' hb, syn := ?_, rng := ?_
           max := ?_
         }
  · obtain ⟨t2, p2, h2⟩ := h.syn; exact ⟨t2, p2, var_below h2 hb⟩
  · obtain ⟨t2, p2, h2⟩ := h.rng; exact ⟨t2, p2, var_below h2 hb⟩
  · obtain ⟨m, h4⟩ := h.max; exact ⟨m, (hb.cell (World.block_lt_of_cell? w _ h4)).trans h4⟩
end Go.Proofs.YtmaemgihhipllaaGreatDoor

/- The book's marks: word, and the mark of a text. -/
namespace Go.Proofs.YtmaemgihhipllaaGreatDoor
set_option linter.unusedVariables false
set_option linter.unusedSimpArgs false
open Go.RowKit
def wordB (n : Nat) : ByteArray := ⟨#[35]⟩ ++ ⟨(Lib.itoa (n : Int)).toArray⟩
theorem itoa_len (n : Nat) (hn : n ≤ 1000000000) : (Lib.itoa (n : Int)).length ≤ 20 := by
  unfold Lib.itoa
  rw [if_neg (by omega), Lib.decDigits_length, Int.toNat_natCast]
  rcases Nat.eq_zero_or_pos n with h | h
  · subst h; rw [Lib.nDigits_small (by omega)]; omega
  · have := Lib.numDigits_eq n h (by omega); split at this <;> omega
set_option maxHeartbeats 800000 in
set_option maxRecDepth 100000 in
theorem word_any {w : World} (hl : Laid w) (n : Nat) (hn : n ≤ 1000000000) : Calls Tryz.prog 93 #[.int .i64 n] w fun e w' => e = .returned (.string (wordB n)) ∧ Below w.heap.size w w' := by
  have HIt := Lib.hid (Tryz.strconv_Itoa (n : Int) (by omega) (by omega) w hl.tab)
  obtain ⟨t, ht⟩ : ∃ t, t = wordB n := ⟨_, rfl⟩
  rw [← ht]
  have HT := Lib.hid (show ⟨#[35]⟩ ++ ⟨(Lib.itoa (n : Int)).toArray⟩ = t from ht.symm)
  have hsz := itoa_len n hn
  have hsz2 : (⟨(Lib.itoa (n : Int)).toArray⟩ : ByteArray).size ≤ 20 := by
    have e : (⟨(Lib.itoa (n : Int)).toArray⟩ : ByteArray).size = (Lib.itoa (n : Int)).length := by simp [ByteArray.size]
    omega
  clear ht hl
  go_enter Tryz.func93, Tryz.ntmps93
  go_wp2_with fail
  refine HIt.out.mono ?_
  rintro e w2 ⟨rfl, j, os, hw2⟩
  have HB := Lib.hid (show Below w.heap.size w w2 by rw [hw2]; exact Lib.below_grow _ w (Nat.le_refl _) j os)
  clear hw2
  go_wp2_with fail
  go_ret
  exact ⟨ret1 (by rw [← HT.out]; rfl), HB.out⟩
set_option maxHeartbeats 800000 in
set_option maxRecDepth 100000 in
theorem markText_any {w : World} (hl : Laid w) (n : Nat) (hn : n ≤ 1000000000) : Calls Tryz.prog 68 #[.int .i64 n] w fun e w' => e = .returned (.string (wordB n)) ∧ Below w.heap.size w w' := by
  have HW := Lib.hid (word_any hl n hn)
  generalize wordB n = t at *
  clear hl
  go_enter Tryz.func68, Tryz.ntmps68
  go_wp2_with fail
  refine HW.out.mono ?_
  rintro e w2 ⟨rfl, b2⟩
  have HB := Lib.hid b2
  clear b2
  go_wp2_with fail
  go_ret
  exact ⟨rfl, HB.out⟩
set_option maxHeartbeats 800000 in
set_option maxRecDepth 100000 in
theorem isText_any {w : World} (hl : Laid w) (n : Nat) (hn : n ≤ 1000000000) : Calls Tryz.prog 77 #[.string (wordB n), .int .i64 n] w fun e w' => e = .returned (.bool true) ∧ Below w.heap.size w w' := by
  have HW := Lib.hid (word_any hl n hn)
  generalize wordB n = t at *
  clear hl
  go_enter Tryz.func77, Tryz.ntmps77
  go_wp2_with fail
  refine HW.out.mono ?_
  rintro e w2 ⟨rfl, b2⟩
  have HB := Lib.hid b2
  clear b2
  go_wp2_with fail
  go_ret
  exact ⟨rfl, HB.out⟩
end Go.Proofs.YtmaemgihhipllaaGreatDoor

/- The book: a held list's cells, and a cell written. -/
namespace Go.Proofs.YtmaemgihhipllaaGreatDoor
set_option linter.unusedVariables false
set_option linter.unusedSimpArgs false
open Go.RowKit
/-- An element's cells so many times. -/
def rep (n : Nat) (us : List Value) : List Value := (List.replicate n us).flatten
theorem rep_zero (us : List Value) : rep 0 us = [] := rfl
theorem rep_succ (n : Nat) (us : List Value) : rep (n + 1) us = rep n us ++ us := by
  unfold rep
  rw [List.replicate_succ', List.flatten_append]; simp
theorem rep_length (n : Nat) (us : List Value) : (rep n us).length = n * us.length := by
  unfold rep
  rw [List.length_flatten]; simp
theorem rep_get (n : Nat) (us : List Value) {k j : Nat} (hk : k < n) (hj : j < us.length) : (rep n us).getD (k * us.length + j) undef = us.getD j undef := by
  induction n with
  | zero => omega
  | succ n ih =>
    have hl := rep_length n us
    simp only [List.getD] at ih ⊢
    rw [rep_succ]
    by_cases h : k < n
    · have : k * us.length + j < n * us.length := by
        have h1 : (k + 1) * us.length ≤ n * us.length := Nat.mul_le_mul_right _ h
        rw [Nat.add_mul] at h1
        omega
      rw [List.getElem?_append_left (by omega)]
      exact ih h
    · obtain rfl : k = n := by omega
      rw [List.getElem?_append_right (by omega), hl]
      congr 2
      omega
theorem take_mid {α : Type} (A us : List α) (p z N : Nat) (hu : us.length = z) (h1 : p + z ≤ N) (h2 : N ≤ A.length) : (A.take p ++ (us ++ A.drop (p + z))).take N = (A.take N).take p ++ us ++ (A.take N).drop (p + z) := by
  have hla : (A.take p).length = p := by rw [List.length_take]; omega
  have e1 : ((A.take p)).take N = A.take p := List.take_of_length_le (by omega)
  have e2 : us.take (N - p) = us := List.take_of_length_le (by omega)
  rw [List.take_append, hla, e1, List.take_append, hu, e2, List.take_take, Nat.min_eq_left (show p ≤ N by omega), List.drop_take, List.append_assoc, show N - p - z = N - (p + z) by omega]
/-- Stores over a row, from a place on. -/
theorem wrs_list2 (cur : Array Value) (a b c b' : List Value) (h : cur.toList = a ++ (b ++ c)) (hl : b'.length = b.length) : (wrs cur a.length b').toList = a ++ (b' ++ c) := by
  have : cur = (a ++ (b ++ c)).toArray := by rw [← h]
  rw [this, wrs_list b' b a c hl]
/-- An element of a slice is written. -/
theorem SliceN.write {w : World} {B : Nat} {e : TypeId} {z : Nat} {v : Value} {n : Nat} {xs : List Value} (h : SliceN w B e z v n xs) {k : Nat} (hk : k < n) (us : List Value) (hu : us.length = z) :
    ∃ g cap cur, v = .slice (some ⟨g, 0, none⟩) n cap ∧ RowAt w g e cur ∧ k * z + z ≤ cur.size ∧ SliceN (w.setRow g (wrs cur (k * z) us)) B e z v n (xs.take (k * z) ++ us ++ xs.drop (k * z + z)) := by
  rcases h.2 with ⟨rfl, rfl⟩ | ⟨g, cap, cur, rfl, h2, h3, h4, h5, h6, h7⟩
  · omega
  · have hkz : k * z + z ≤ n * z := by
      have := Nat.mul_le_mul_right z (show k + 1 ≤ n from hk)
      rw [Nat.add_mul] at this; omega
    have hcz : n * z ≤ cap * z := Nat.mul_le_mul_right z h5
    refine ⟨g, cap, cur, rfl, h3, by omega, ?_, .inr ⟨g, cap, _, rfl, h2, h3.setRow (by simp), by simpa using h4, h5, h6, ?_⟩⟩
    · simp only [List.length_append, List.length_take, List.length_drop, h.1, hu]; omega
    · have hcl : cur.toList.length = cap * z := by rw [Array.length_toList]; exact h4
      have e1 : cur.toList = cur.toList.take (k * z) ++ ((cur.toList.drop (k * z)).take z ++ cur.toList.drop (k * z + z)) := by
        rw [← List.drop_drop, List.take_append_drop, List.take_append_drop]
      have hla : (cur.toList.take (k * z)).length = k * z := by rw [List.length_take]; omega
      have e2 := wrs_list2 cur _ _ _ us e1 (by rw [hu, List.length_take, List.length_drop]; omega)
      rw [hla] at e2
      rw [e2, ← h7]
      exact take_mid _ _ _ _ _ hu hkz (by omega)
end Go.Proofs.YtmaemgihhipllaaGreatDoor

/- The book: fillText. -/
namespace Go.Proofs.YtmaemgihhipllaaGreatDoor
set_option linter.unusedVariables false
set_option linter.unusedSimpArgs false
open Go.RowKit
abbrev bkp (b : Nat) : Value := .pointer (some ⟨b, 0, none⟩)
/-- A list that a book holds: its slice value, what was grown of it, how long it is, its mark. -/
structure Held where
  v : Value
  g : Value
  n : Nat
  m : Nat
def heldC (E : List Held) : List Value := E.flatMap fun h => [h.v, h.g, .int .i64 h.m]
theorem heldC_length (E : List Held) : (heldC E).length = E.length * 3 := by
  unfold heldC
  induction E with
  | nil => rfl
  | cons h E ih => rw [List.flatMap_cons, List.length_append, ih]; simp; omega
theorem heldC_get : ∀ {E : List Held} {i : Nat} (hi : i < E.length), (heldC E).getD (i * 3) undef = E[i].v ∧ (heldC E).getD (i * 3 + 1) undef = E[i].g ∧ (heldC E).getD (i * 3 + 2) undef = .int .i64 E[i].m
  | h :: E, 0, _ => ⟨rfl, rfl, rfl⟩
  | h :: E, i + 1, hi => by
    have := heldC_get (E := E) (i := i) (by simpa using hi)
    have e : (i + 1) * 3 = i * 3 + 1 + 1 + 1 := by omega
    rw [e]
    exact this
/-- What a book needs of the lists of one kind. -/
structure Holds (w : World) (b : Nat) (I : Nat) (HT e : TypeId) (z : Nat) (tv : Value) (E : List Held) : Prop where
  head : ∃ cs, w.heap[b]? = some (.cells cs 35 (0, 0)) ∧ cs[I]? = some tv
  row : SliceN w 0 HT 3 tv E.length (heldC E)
  few : E.length ≤ 1000000
  small : ∀ h ∈ E, h.n ≤ 1000000000 ∧ h.m ≤ 1000000000
  got : ∀ h ∈ E, ∃ xs, SliceN w 0 e z h.v h.n xs
  apart : ∀ i j (hi : i < E.length) (hj : j < E.length), i ≠ j → ∀ k, vblock E[i].v = some k → vblock E[j].v ≠ some k
  offb : ∀ h ∈ E, vblock h.v ≠ some b
  offt : ∀ h ∈ E, ∀ k, vblock h.v = some k → vblock tv ≠ some k
def blocksV (E : List Held) (k : Nat) : Prop := ∃ h ∈ E, vblock h.v = some k
end Go.Proofs.YtmaemgihhipllaaGreatDoor

/- The book: fillText. -/
namespace Go.Proofs.YtmaemgihhipllaaGreatDoor
set_option linter.unusedVariables false
set_option linter.unusedSimpArgs false
open Go.RowKit
abbrev markT (m : Nat) : List Value := [.string (wordB m)]
/-- What stands for the old world that the base names. -/
structure Base (w0 w : World) : Prop where
  laid : Laid w0
  bel : Below w0.heap.size w0 w
theorem Base.now {w0 w : World} (h : Base w0 w) : Laid w := h.laid.below h.bel
theorem Base.chg {w0 w w' : World} (h : Base w0 w) {S : Nat → Prop} (hc : Chg S w w') (hs : ∀ k, S k → w0.heap.size ≤ k) : Base w0 w' := ⟨h.laid, belowChg h.bel hc h.bel.size fun k hk _ => hs k hk⟩
theorem Base.below {w0 w w' : World} (h : Base w0 w) (hb : Below w.heap.size w w') : Base w0 w' := ⟨h.laid, h.bel.trans (hb.mono h.bel.size)⟩
set_option maxHeartbeats 3200000 in
set_option maxRecDepth 100000 in
theorem fillText_any {w0 w : World} (hB : Base w0 w) {b : Nat} {tv : Value} {E : List Held} (h : Holds w b 3 103 9 1 tv E) (hE : ∀ k, blocksV E k → w0.heap.size ≤ k) (hg : ∀ h ∈ E, h.g = .slice none 0 0) :
    Calls Tryz.prog 24 #[bkp b] w fun e w' => (∃ v, e = .returned v) ∧ (∀ h ∈ E, SliceN w' 0 9 1 h.v h.n (rep h.n (markT h.m))) ∧ Chg (blocksV E) w w' := by
  obtain ⟨N, hN⟩ : ∃ N, N = E.length := ⟨_, rfl⟩
  obtain ⟨ta, tc, rfl, htc, _⟩ := h.row.form
  rw [← hN] at htc
  have hN6 : N ≤ 1000000 := by have := h.few; omega
  have HH := Lib.hid h
  have HB := Lib.hid hB
  have HE := Lib.hid hE
  have HG := Lib.hid hg
  have HN := Lib.hid hN
  obtain ⟨cs, hcs, hci⟩ := h.head
  rw [← hN] at hci
  have HCs := Lib.hid (And.intro hcs hci)
  have x0 := cell_in hcs hci
  clear h hB hE hg hN hcs hci
  go_enter Tryz.func24, Tryz.ntmps24
  go_wp2_with fail
  go_loopw [2] (fun i wr => ∃ k : Nat, k ≤ N ∧ i = .int .i64 k ∧ Hid ((∀ j (hj : j < E.length), (j < k → SliceN wr 0 9 1 E[j].v E[j].n (rep E[j].n (markT E[j].m))) ∧ ∃ xs, SliceN wr 0 9 1 E[j].v E[j].n xs) ∧ Chg (blocksV E) w wr)) (fun i _ => N - (intOf i).toNat)
  case atStart => exact ⟨0, Nat.zero_le _, rfl, Lib.hid ⟨fun j hj => ⟨fun h => absurd h (by omega), HH.out.got _ (List.getElem_mem hj)⟩, Chg.refl _ _⟩⟩
  case round =>
    obtain ⟨k, hk, rfl, hI⟩ := hrel
    obtain ⟨wo, rfl⟩ : ∃ wo, wo = wr := ⟨_, rfl⟩
    have hcb : wo.heap[b]? = some (.cells cs 35 (0, 0)) := hI.out.2.keep HCs.out.1 fun ⟨h, hh, e⟩ => HH.out.offb h hh e
    have xr := cell_in hcb HCs.out.2
    by_cases hlt : k < N
    · have hkE : k < E.length := by rw [← HN.out]; exact hlt
      obtain ⟨v0, hv0⟩ : ∃ v0, v0 = E[k].v := ⟨_, rfl⟩
      obtain ⟨n, hn⟩ : ∃ n, n = E[k].n := ⟨_, rfl⟩
      obtain ⟨m, hm⟩ : ∃ m, m = E[k].m := ⟨_, rfl⟩
      have hmem : E[k] ∈ E := List.getElem_mem hkE
      have hsm := HH.out.small _ hmem
      rw [← hn, ← hm] at hsm
      obtain ⟨hn9, hm9⟩ := hsm
      obtain ⟨xs, hxs⟩ := (hI.out.1 k hkE).2
      rw [← hv0, ← hn] at hxs
      obtain ⟨va, vc, rfl, hvc, _⟩ := hxs.form
      have hrow := HH.out.row.chg hI.out.2 fun j hj ⟨h, hh, e⟩ => HH.out.offt h hh j e hj
      rw [← HN.out] at hrow
      obtain ⟨tg, hta⟩ : ∃ tg, ta = some ⟨tg, 0, none⟩ := by
        rcases hrow.2 with ⟨e, hz⟩ | ⟨g, cap, cur, e, _⟩
        · omega
        · cases e; exact ⟨g, rfl⟩
      subst hta
      obtain ⟨g1, g2, g3⟩ := heldC_get hkE
      have y0 := hrow.cell rfl (i := k * 3) (by omega)
      have y1 := hrow.cell rfl (i := k * 3 + 1) (by omega)
      have y2 := hrow.cell rfl (i := k * 3 + 2) (by omega)
      rw [g1, ← hv0] at y0
      rw [g2, HG.out _ hmem] at y1
      rw [g3, ← hm] at y2
      obtain ⟨w4, hw4⟩ : ∃ w4, w4 = wo.alloc (.cells #[.slice va n vc, .slice none 0 0, .int .i64 m] 103) := ⟨_, rfl⟩
      have hb4 : w4.heap[wo.heap.size]? = some (.cells #[.slice va n vc, .slice none 0 0, .int .i64 m] 103 (0, 0)) := by rw [hw4]; exact heap_new _ _
      have hbl4 : Below wo.heap.size wo w4 := by rw [hw4]; exact (Below.refl _ _).alloc (Nat.le_refl _) _
      have z0 := cell_in hb4 (i := 0) rfl
      have hbv : ∀ j, vblock (.slice va n vc) = some j → blocksV E j := fun j hj => ⟨E[k], hmem, by rw [← hv0]; exact hj⟩
      have HX := Lib.hid (show SliceN w4 0 9 1 (.slice va n vc) n xs ∧ (∀ j, vblock (.slice va n vc) = some j → j < wo.heap.size) ∧ Base w0 w4 from ⟨hxs.below hbl4, fun j hj => (hxs.block_lt hj).2, (HB.out.chg hI.out.2 HE.out).below hbl4⟩)
      have HBv := Lib.hid (And.intro hbv (And.intro hb4 hbl4))
      have HE3 := Lib.hid (And.intro hv0 (And.intro hn hm))
      have HW4 := Lib.hid hw4
      clear hxs hrow g1 g2 g3 hv0 hn hm hw4 hb4 hbl4 hbv hmem
      go_wp2_with fail
      rw [← HW4.out]
      go_loopw [4] (fun j wq => ∃ q : Nat, q ≤ n ∧ j = .int .i64 q ∧ Hid ((∃ ys, SliceN wq 0 9 1 (.slice va n vc) n (rep q (markT m) ++ ys)) ∧ Chg (fun x => vblock (.slice va n vc) = some x) w4 wq)) (fun j _ => n - (intOf j).toNat)
      case atStart => exact ⟨0, Nat.zero_le _, rfl, Lib.hid ⟨⟨xs, HX.out.1⟩, Chg.refl _ _⟩⟩
      case round =>
        obtain ⟨q, hq, rfl, hJ⟩ := hrel
        obtain ⟨⟨ys, hys⟩, hC⟩ := hJ.out
        have hB2 := HX.out.2.2.chg hC fun j hj => HE.out j (HBv.out.1 j hj)
        have hbd : Below wr.heap.size wr wr.drew := belowN (Below.refl _ _) 1
        have hh : wr.heap[wo.heap.size]? = some (.cells #[.slice va n vc, .slice none 0 0, .int .i64 m] 103 (0, 0)) := hC.keep HBv.out.2.1 fun e => by have := HX.out.2.1 _ e; omega
        have c0 := cell_in hh (i := 0) rfl
        have c2 := cell_in hh (i := 2) rfl
        by_cases hlq : q < n
        · have hd0 : wr.drew.cell? ⟨wo.heap.size, 0, none⟩ = some (.slice va n vc) := c0
          have hd2 : wr.drew.cell? ⟨wo.heap.size, 2, none⟩ = some (.int .i64 m) := c2
          obtain ⟨X1, f, hX1, hff, hF⟩ := classOf (fun y => y.cell? ⟨wo.heap.size, 0, none⟩ = some (.slice va n vc) ∧ y.cell? ⟨wo.heap.size, 2, none⟩ = some (.int .i64 m)) (w := wr.drew) ⟨hd0, hd2⟩
          have hf0 := fun x => (hff x).1
          have hf2 := fun x => (hff x).2
          have H0 := Lib.hid (hF wr.drew ⟨hd0, hd2⟩)
          have HM := Lib.hid (markText_any (hB2.below hbd).now m hm9)
          have HJ2 := Lib.hid (And.intro hys (And.intro hC (And.intro hB2 hh)))
          have HFc := Lib.hid hF
          clear hJ hys hC hB2 hh hff hF hd0 hd2
          go_wp2_with fail
          refine wp_region_text ⟨[5, 7], [], 7⟩ (fun w' => ∃ x : X1, w' = f x) (by kernel_rfl) (by kernel_rfl) H0.out ?_
          refine wpC_seg false (H0.out) 5 0 _ _ (by rfl) (by rfl) ?_
          simp only [List.take_succ_cons, List.take_zero, List.drop_succ_cons, List.drop_zero, Bool.false_eq_true, if_false, Nat.zero_add, Nat.reduceAdd]
          repeat (go_big_quiet_step (fail))
          refine wpQuiet_nil ?_
          refine wpC_loud (by rfl) (by rfl) fun K hK => ?_
          go_wp2_with fail
          refine HM.out.mono ?_
          rintro e w5 ⟨rfl, b5⟩
          have hb5 : Below wr.heap.size wr w5 := hbd.trans b5
          obtain ⟨g, cap, cur, ev, hrow5, hroom, hs6⟩ := (HJ2.out.1.below hb5).write hlq (markT m) rfl
          cases ev
          have hh5 : w5.heap[wo.heap.size]? = some (.cells #[.slice (some ⟨g, 0, none⟩) n vc, .slice none 0 0, .int .i64 m] 103 (0, 0)) := (Chg.of_below (fun _ => False) hb5).keep HJ2.out.2.2.2 id
          have H5 := Lib.hid (HFc.out w5 ⟨cell_in hh5 (i := 0) rfl, cell_in hh5 (i := 2) rfl⟩)
          obtain ⟨w6, hw6⟩ : ∃ w6, w6 = w5.setCell ⟨g, q, none⟩ (.string (wordB m)) := ⟨_, rfl⟩
          have e6 : w6 = w5.setRow g (wrs cur (q * 1) (markT m)) := by rw [hw6, hrow5.setCell, Nat.mul_one]; rfl
          have x5 : w5.cell? ⟨g, q, none⟩ = some (cur.getD q undef) := hrow5.cell (by rw [Array.getD_eq_getD_getElem?, Array.getElem?_eq_getElem (by omega)]; rfl)
          have f5 := hrow5.free (i := q) (by omega)
          have HS := Lib.hid (show (∃ ys, SliceN w6 0 9 1 (.slice (some ⟨g, 0, none⟩) n vc) n (rep (q + 1) (markT m) ++ ys)) ∧ Chg (fun x => vblock (.slice (some ⟨g, 0, none⟩) n vc) = some x) w4 w6 from by
            refine ⟨⟨ys.drop 1, ?_⟩, ?_⟩
            · rw [← e6] at hs6
              have hl := rep_length q (markT m)
              have e : (rep q (markT m) ++ ys).take (q * 1) ++ markT m ++ (rep q (markT m) ++ ys).drop (q * 1 + 1) = rep (q + 1) (markT m) ++ ys.drop 1 := by
                have hl2 : (rep q (markT m)).length = q * 1 := hl
                rw [rep_succ, List.take_left' hl2, ← List.drop_drop, List.drop_left' hl2]
              rw [e] at hs6
              exact hs6
            · exact (HJ2.out.2.1.trans (Chg.of_below _ hb5) fun j hj _ => hj).trans (by rw [hw6]; exact Chg.setCell (fun x => vblock (.slice (some ⟨g, 0, none⟩) n vc) = some x) w5 ⟨g, q, none⟩ _ rfl) fun j hj _ => hj)
          have HW6 := Lib.hid hw6
          clear hs6 hrow5 hw6 e6 b5 hb5 hh5
          refine hK _ _ (fun _ => H5.out) ?_
          clear hK
          refine wpC_seg false (H5.out) 1 6 _ _ (by rfl) (by rfl) ?_
          simp only [List.take_succ_cons, List.take_zero, List.drop_succ_cons, List.drop_zero, Bool.false_eq_true, if_false, Nat.zero_add, Nat.reduceAdd]
          repeat (go_big_quiet_step (fail))
          refine wpQuiet_nil ?_
          refine wpC_loud (by rfl) (by rfl) fun K hK => ?_
          go_wp2_with fail
          rw [← HW6.out]
          refine hK _ _ (fun h => absurd h (by decide)) ?_
          clear hK
          refine wpC_nil ?_
          clear hf0 hf2 hX1 H0 H5
          go_wp2_with fail
          go_roundw
          case rel => exact ⟨q + 1, by omega, by go_num, HS⟩
          case measure => simp [intOf]; omega
        · obtain rfl : q = n := by omega
          have HS := Lib.hid (show (∀ j (hj : j < E.length), (j < k + 1 → SliceN wr 0 9 1 E[j].v E[j].n (rep E[j].n (markT E[j].m))) ∧ ∃ xs, SliceN wr 0 9 1 E[j].v E[j].n xs) ∧ Chg (blocksV E) w wr by
            obtain ⟨hv0, hn, hm⟩ := HE3.out
            have hyl : ys = [] := by
              have h1 := hys.1
              have h2 := rep_length q (markT m)
              rw [List.length_append, h2] at h1
              exact List.eq_nil_of_length_eq_zero (by have : q * (markT m).length = q * 1 := rfl; omega)
            rw [hyl, List.append_nil] at hys
            have hcw : Chg (fun x => vblock (.slice va q vc) = some x) wo wr := (Chg.of_below _ HBv.out.2.2).trans hC fun j hj _ => hj
            refine ⟨fun j hj => ?_, hI.out.2.trans hcw fun j hj _ => HBv.out.1 j hj⟩
            by_cases hjk : j = k
            · subst hjk
              rw [← hv0, ← hn, ← hm]
              exact ⟨fun _ => hys, _, hys⟩
            · obtain ⟨h1, ⟨xs1, h2⟩⟩ := hI.out.1 j hj
              have hap : ∀ x, vblock E[j].v = some x → ¬ vblock (.slice va q vc) = some x := fun x hx hy => HH.out.apart j k hj hkE hjk x hx (by rw [← hv0]; exact hy)
              exact ⟨fun hlt2 => (h1 (by omega)).chg hcw hap, xs1, h2.chg hcw hap⟩)
          clear hJ hys hC hB2 hh
          go_wp2_with fail
          go_roundw
          case rel => exact ⟨k + 1, by omega, by go_num, HS⟩
          case measure => simp [intOf]; omega
    · obtain rfl : k = N := by omega
      have HS := Lib.hid (show (∀ h ∈ E, SliceN wo 0 9 1 h.v h.n (rep h.n (markT h.m))) ∧ Chg (blocksV E) w wo from
        ⟨fun h hh => by
          obtain ⟨j, hj, rfl⟩ := List.getElem_of_mem hh
          exact (hI.out.1 j hj).1 (by rw [HN.out]; exact hj), hI.out.2⟩)
      clear hI
      go_wp2_with fail
      go_end0
      exact ⟨⟨_, rfl⟩, HS.out⟩
end Go.Proofs.YtmaemgihhipllaaGreatDoor

/- The book: lists that only read; append with what it leaves alone; a held list's cell written. -/
namespace Go.Proofs.YtmaemgihhipllaaGreatDoor
set_option linter.unusedVariables false
set_option linter.unusedSimpArgs false
open Go.RowKit
/-- The elements of a slice read so. -/
def Reads (w : World) (z : Nat) (v : Value) (n : Nat) (xs : List Value) : Prop :=
  (v = .slice none 0 0 ∧ n = 0) ∨ ∃ g cap, v = .slice (some ⟨g, 0, none⟩) n cap ∧ n ≤ cap ∧ cap ≤ maxLen ∧ ∀ i, i < n * z → w.cell? ⟨g, i, none⟩ = some (xs.getD i undef)
theorem SliceN.reads {w : World} {B : Nat} {e : TypeId} {z : Nat} {v : Value} {n : Nat} {xs : List Value} (h : SliceN w B e z v n xs) : Reads w z v n xs := by
  rcases h.2 with ⟨rfl, rfl⟩ | ⟨g, cap, cur, rfl, h2, h3, h4, h5, h6, h7⟩
  · exact .inl ⟨rfl, rfl⟩
  · exact .inr ⟨g, cap, rfl, h5, h6, fun i hi => h.cell rfl hi⟩
theorem cell_chg {w w' : World} {S : Nat → Prop} (hc : Chg S w w') {b i : Nat} {v : Value} (h : w.cell? ⟨b, i, none⟩ = some v) (hn : ¬ S b) : w'.cell? ⟨b, i, none⟩ = some v := by
  have := hc.block b (World.block_lt_of_cell? w _ h) hn
  rw [← h]
  simp only [World.cell?, this]
theorem Reads.chg {w w' : World} {z : Nat} {v : Value} {n : Nat} {xs : List Value} (h : Reads w z v n xs) {S : Nat → Prop} (hc : Chg S w w') (hn : ∀ k, vblock v = some k → ¬ S k) : Reads w' z v n xs := by
  rcases h with h | ⟨g, cap, rfl, h1, h2, h3⟩
  · exact .inl h
  · exact .inr ⟨g, cap, rfl, h1, h2, fun i hi => cell_chg hc (h3 i hi) (hn g rfl)⟩
theorem Reads.form {w : World} {z : Nat} {v : Value} {n : Nat} {xs : List Value} (h : Reads w z v n xs) : ∃ a cap, v = .slice a n cap ∧ n ≤ cap ∧ cap ≤ maxLen := by
  rcases h with ⟨rfl, rfl⟩ | ⟨g, cap, rfl, h1, h2, _⟩
  · exact ⟨none, 0, rfl, Nat.le_refl _, by unfold maxLen; omega⟩
  · exact ⟨_, cap, rfl, h1, h2⟩
theorem Reads.get {w : World} {z : Nat} {v : Value} {n : Nat} {xs : List Value} (h : Reads w z v n xs) {i : Nat} (hi : i < n * z) : ∃ g cap, v = .slice (some ⟨g, 0, none⟩) n cap ∧ w.cell? ⟨g, i, none⟩ = some (xs.getD i undef) := by
  rcases h with ⟨rfl, rfl⟩ | ⟨g, cap, rfl, h1, h2, h3⟩
  · omega
  · exact ⟨g, cap, rfl, h3 i hi⟩
theorem rep_prefix (n j : Nat) (us : List Value) {i : Nat} (hi : i < n * us.length) : (rep (n + j) us).getD i undef = (rep n us).getD i undef := by
  induction j with
  | zero => rfl
  | succ j ih =>
    rw [← ih, ← Nat.add_assoc, rep_succ]
    have hl := rep_length (n + j) us
    have : n * us.length ≤ (n + j) * us.length := Nat.mul_le_mul_right _ (by omega)
    simp only [List.getD]
    rw [List.getElem?_append_left (by omega)]
/-- One element more: only the row that the value stays in may have been written. -/
theorem run_append_oneK {w : World} {B : Nat} {e : TypeId} {z : Nat} {v : Value} {n : Nat} {xs : List Value} {P : Program} {t ty : TypeId} {i : TypeInfo} {z0 : Value} {bytes : Nat} (ht : P.underlying t = some (.slice e)) (hi : P.info? e = some i) (hz : i.zero = some z0)
    (hsize : i.size = z) (hby : i.bytes = bytes) (hzs : z0.cells.size = z) (h : SliceN w B e z v n xs) (hB : B ≤ w.heap.size) (us : List Value) (hu : us.length = z) (h1 : ∀ u ∈ us, u.oneCell' = true)
    (h63 : n + 1 ≤ maxLen) (hbytes : (n + 1) * bytes ≤ 140737488355328) :
    ∃ v' w', (Builtin.append_ #[t, t] ty #[v, .slice (some ⟨w.heap.size, 0, none⟩) 1 1]).run P (w.alloc (.cells us.toArray e)) = .ok v' w' ∧ SliceN w' B e z v' (n + 1) (xs ++ us) ∧ Chg (fun k => vblock v = some k ∧ vblock v' = some k) w w' ∧ (vblock v' = vblock v ∨ ∃ k, vblock v' = some k ∧ w.heap.size ≤ k) := by
  obtain ⟨w1, hw1⟩ : ∃ w1, w1 = w.alloc (.cells us.toArray e) := ⟨_, rfl⟩
  have hb1 : Below w.heap.size w w1 := by rw [hw1]; exact (Below.refl _ _).alloc (Nat.le_refl _) _
  have hs1 : w1.heap.size = w.heap.size + 1 := by rw [hw1]; simp
  have hnews : ∀ j u, us[j]? = some u → w1.cell? ((⟨w.heap.size, 0, none⟩ : Addr).add j) = some u := fun j x hx => by
    rw [Addr.add_lit, Nat.zero_add, hw1]
    refine cell_in (heap_new w _) ?_
    simpa using hx
  have h' := h.below hb1
  rw [← hw1]
  have moved : ∀ v' w', Appended w1 e z none xs us (n + 1) v' w' → SliceN w' B e z v' (n + 1) (xs ++ us) ∧ Chg (fun k => vblock v = some k ∧ vblock v' = some k) w w' ∧ (vblock v' = vblock v ∨ ∃ k, vblock v' = some k ∧ w.heap.size ≤ k) := by
    rintro v' w' ⟨g', cap', cur', rfl, q1, q2, q3, q4, q5, q6, q7⟩
    have hg' : w1.heap.size ≤ g' := q6.resolve_left (by simp)
    refine ⟨⟨by rw [List.length_append, h.1, hu, Nat.add_mul, Nat.one_mul], .inr ⟨g', cap', cur', rfl, by omega, q1, q2, q3, q4, q5⟩⟩, (Chg.of_below _ hb1).trans q7 fun k hk _ => by simp at hk, .inr ⟨g', rfl, by omega⟩⟩
  rcases h'.2 with ⟨rfl, rfl⟩ | ⟨g, cap, cur, rfl, h2, h3, h4, h5, h6, h7⟩
  · have hx : xs = [] := List.eq_nil_of_length_eq_zero (by rw [h.1]; simp)
    obtain ⟨v', w', hr, hp⟩ := run_append_row_nil (P := P) w1 t ty e i z0 z bytes ht hi hz hsize hby hzs ⟨w.heap.size, 0, none⟩ 1 1 us (by omega) (by omega) hnews (by omega) (by simpa using hbytes)
    exact ⟨v', w', hr, moved v' w' (by rw [hx]; exact hp)⟩
  · by_cases hroom : n + 1 ≤ cap
    · obtain ⟨v', w', hr, g', cap', cur', e1, q1, q2, q3, q4, q5, q6, q7⟩ := run_append_row (P := P) w1 t ty e i z0 z bytes ht hi hz hsize hby hzs g n cap cur h3 h4 h5 h6 ⟨w.heap.size, 0, none⟩ 1 1 us (by omega) hnews h1 h63 hbytes
      subst hsize
      have hfit : n * i.size + us.length ≤ cur.size := by
        have := Nat.mul_le_mul_right i.size hroom
        rw [Nat.add_mul] at this; omega
      have hf := run_firstCells_some (P := P) w1 i.size 1 ⟨w.heap.size, 0, none⟩ 1 1 us (by omega) hnews
      have hst := run_storeCells_row (P := P) g (n * i.size) e us 0 cur w1 h3 (by simpa using hfit) h1
      simp only [Nat.add_zero] at hst
      have hr2 : (Builtin.append_ #[t, t] ty #[.slice (some ⟨g, 0, none⟩) n cap, .slice (some ⟨w.heap.size, 0, none⟩) 1 1]).run P w1 =
        .ok (.slice (some ⟨g, 0, none⟩) (n + 1) cap) (w1.setRow g (cur.toList.take (n * i.size) ++ us ++ cur.toList.drop (n * i.size + us.length)).toArray) := by
        simp [Builtin.append_, run_underlying ht, sizeOf, typeInfo, hi, Builtin.lenOf, hroom, hf, Addr.add_lit, hst]
      rw [hr] at hr2
      injection hr2 with hv hw
      refine ⟨v', w', hr, ⟨by rw [List.length_append, h.1, hu, Nat.add_mul, Nat.one_mul], .inr ⟨g', cap', cur', e1, ?_, q1, q2, q3, q4, by rw [q5, h7]⟩⟩, ?_, ?_⟩
      · rw [e1] at hv; cases hv; exact h2
      · rw [hv]
        exact (Chg.of_below _ hb1).trans q7 fun k hk _ => by cases hk; exact ⟨rfl, rfl⟩
      · rw [hv]; exact .inl rfl
    · subst hsize
      have hol : (cur.toList.take (n * i.size)).length = n * i.size := by
        rw [List.length_take, Array.length_toList, h4, Nat.min_eq_left (Nat.mul_le_mul_right _ h5)]
      have holds : ∀ j u, (cur.toList.take (n * i.size))[j]? = some u → w1.cell? ((⟨g, 0, none⟩ : Addr).add j) = some u := fun j u hu => by
        rw [Addr.add_lit, Nat.zero_add]
        refine h3.cell ?_
        rw [List.getElem?_take] at hu
        split at hu
        · simpa using hu
        · cases hu
      subst hby
      have hr := run_append_grow (P := P) w1 t ty e i z0 ht hi hz ⟨g, 0, none⟩ n cap _ hol holds ⟨w.heap.size, 0, none⟩ 1 1 us (by omega) hnews (by omega) (by simp only [maxLen] at h63; omega) (growslice_fits (by omega) hbytes)
      have hlen : (cur.toList.take (n * i.size) ++ us).length = (n + 1) * i.size := by rw [List.length_append, hol, hu, Nat.add_mul, Nat.one_mul]
      refine ⟨_, _, hr, moved _ _ ?_⟩
      have := append_grown w1 none e i.size z0 hzs _ _ _ cap hlen h63
      rw [h7] at this ⊢
      exact this
/-- A cell of a slice is written. -/
theorem SliceN.put {w : World} {B : Nat} {e : TypeId} {z : Nat} {v : Value} {n : Nat} {xs : List Value} (h : SliceN w B e z v n xs) {g c m : Nat} (hv : v = .slice (some ⟨g, 0, none⟩) m c) {p : Nat} (hp : p < n * z) (u : Value) :
    SliceN (w.setCell ⟨g, p, none⟩ u) B e z v n (xs.set p u) ∧ w.frozen? ⟨g, p, none⟩ = false := by
  rcases h.2 with ⟨rfl, rfl⟩ | ⟨g', cap, cur, rfl, h2, h3, h4, h5, h6, h7⟩
  · cases hv
  · cases hv
    have hcz := Nat.mul_le_mul_right z h5
    refine ⟨⟨by rw [List.length_set]; exact h.1, .inr ⟨g, c, cur.setIfInBounds p u, rfl, h2, by rw [h3.setCell]; exact h3.setRow (by simp), by simpa using h4, h5, h6, ?_⟩⟩, h3.free (by omega)⟩
    rw [← h7, Array.toList_setIfInBounds, List.take_set]
theorem heldC_set : ∀ {E : List Held} {k : Nat} (hk : k < E.length) (g : Value), heldC (E.set k { E[k] with g := g }) = (heldC E).set (k * 3 + 1) g
  | h :: E, 0, _, g => rfl
  | h :: E, k + 1, hk, g => by
    have ih := heldC_set (E := E) (k := k) (by simpa using hk) g
    have e : (k + 1) * 3 + 1 = (k * 3 + 1) + 1 + 1 + 1 := by omega
    rw [e]
    show h.v :: h.g :: .int .i64 h.m :: heldC (E.set k _) = h.v :: h.g :: .int .i64 h.m :: (heldC E).set (k * 3 + 1) g
    rw [← ih]
    rfl
end Go.Proofs.YtmaemgihhipllaaGreatDoor

/- The book: growText. -/
namespace Go.Proofs.YtmaemgihhipllaaGreatDoor
set_option linter.unusedVariables false
set_option linter.unusedSimpArgs false
open Go.RowKit
theorem info_strB : (Tryz.prog.info? 9).map (fun i => (i.zero, i.size, i.bytes)) = some (some (.string ByteArray.empty), 1, 16) := by kernel_rfl
/-- What a book has of the lists of one kind behind its growing. -/
structure Grown (w : World) (b : Nat) (I : Nat) (HT : TypeId) (z : Nat) (mk : Nat → List Value) (tv : Value) (E : List Held) : Prop where
  head : ∃ cs, w.heap[b]? = some (.cells cs 35 (0, 0)) ∧ cs[I]? = some tv
  row : SliceN w 0 HT 3 tv E.length (heldC E)
  few : E.length ≤ 1000000
  small : ∀ h ∈ E, h.n ≤ 1000000000 ∧ h.m ≤ 1000000000
  got : ∀ h ∈ E, Reads w z h.v h.n (rep h.n (mk h.m)) ∧ Reads w z h.g (h.n + 70) (rep (h.n + 70) (mk h.m))
/-- Alike but for what was grown. -/
def Agree (E E' : List Held) : Prop := E'.length = E.length ∧ ∀ j (h1 : j < E.length) (h2 : j < E'.length), E'[j].v = E[j].v ∧ E'[j].n = E[j].n ∧ E'[j].m = E[j].m
theorem Agree.refl (E : List Held) : Agree E E := ⟨rfl, fun _ _ _ => ⟨rfl, rfl, rfl⟩⟩
theorem Agree.set {E E' : List Held} (h : Agree E E') {k : Nat} (hk : k < E'.length) (g : Value) : Agree E (E'.set k { E'[k] with g := g }) := by
  refine ⟨by rw [List.length_set]; exact h.1, fun j h1 h2 => ?_⟩
  have h2' : j < E'.length := by rw [List.length_set] at h2; exact h2
  have := h.2 j h1 h2'
  rw [List.getElem_set]
  split
  · rename_i e; subst e; exact this
  · exact this
/-- Between two rounds of a growing. -/
structure Grew (w0 w : World) (e HT : TypeId) (z : Nat) (mk : Nat → List Value) (tv : Value) (E E' : List Held) (k : Nat) (wr : World) : Prop where
  agree : Agree E E'
  row : SliceN wr 0 HT 3 tv E'.length (heldC E')
  old : ∀ j (h1 : j < E.length) (h2 : j < E'.length), j < k → Reads wr z E[j].v E[j].n (rep E[j].n (mk E[j].m)) ∧ Reads wr z E'[j].g (E[j].n + 70) (rep (E[j].n + 70) (mk E[j].m)) ∧ (vblock E'[j].g = vblock E[j].v ∨ ∃ x, vblock E'[j].g = some x ∧ w.heap.size ≤ x)
  new : ∀ j (h1 : j < E.length) (h2 : j < E'.length), k ≤ j → E'[j].g = .slice none 0 0 ∧ SliceN wr 0 e z E[j].v E[j].n (rep E[j].n (mk E[j].m))
  chg : Chg (fun x => blocksV E x ∨ vblock tv = some x) w wr
set_option maxHeartbeats 6400000 in
set_option maxRecDepth 100000 in
theorem growText_any {w0 w : World} (hB : Base w0 w) {b : Nat} {tv : Value} {E : List Held} (h : Holds w b 3 103 9 1 tv E) (hE : ∀ k, blocksV E k → w0.heap.size ≤ k) (hg : ∀ h ∈ E, h.g = .slice none 0 0)
    (hm : ∀ h ∈ E, SliceN w 0 9 1 h.v h.n (rep h.n (markT h.m))) (htv : ∀ k, vblock tv = some k → w0.heap.size ≤ k) (hbt : vblock tv ≠ some b) :
    Calls Tryz.prog 33 #[bkp b] w fun e w' => (∃ v, e = .returned v) ∧ (∃ E', Grown w' b 3 103 1 markT tv E' ∧ Agree E E' ∧ ∀ h ∈ E', vblock h.g = vblock h.v ∨ ∃ x, vblock h.g = some x ∧ w.heap.size ≤ x) ∧ Chg (fun x => blocksV E x ∨ vblock tv = some x) w w' := by
  obtain ⟨N, hN⟩ : ∃ N, N = E.length := ⟨_, rfl⟩
  obtain ⟨ta, tc, rfl, htc, _⟩ := h.row.form
  rw [← hN] at htc
  have hN6 : N ≤ 1000000 := by have := h.few; omega
  have HH := Lib.hid h
  have HB := Lib.hid hB
  have HE := Lib.hid (And.intro hE htv)
  have HM := Lib.hid hm
  have HN := Lib.hid hN
  have HBt := Lib.hid hbt
  have HLt := Lib.hid (show ∀ x, blocksV E x ∨ vblock (.slice ta E.length tc) = some x → x < w.heap.size by
    rintro x (⟨h1, hh, e⟩ | hx)
    · exact ((hm h1 hh).block_lt e).2
    · exact (h.row.block_lt hx).2)
  obtain ⟨cs, hcs, hci⟩ := h.head
  have hcsb : ¬ (blocksV E b ∨ vblock (.slice ta E.length tc) = some b) := by
    rintro (⟨h1, hh, e⟩ | hx)
    · exact h.offb h1 hh e
    · exact hbt hx
  rw [← hN] at hci
  have HCs := Lib.hid (And.intro hcs (And.intro hci hcsb))
  have HS0 := Lib.hid (show Grew w0 w 9 103 1 markT (.slice ta E.length tc) E E 0 w from ⟨Agree.refl E, h.row, fun _ _ _ h => by omega, fun j h1 _ _ => ⟨hg _ (List.getElem_mem h1), hm _ (List.getElem_mem h1)⟩, Chg.refl _ _⟩)
  clear h hB hE hg hm htv hN hcs hci hbt hcsb
  go_enter Tryz.func33, Tryz.ntmps33
  go_wp2_with fail
  go_loopw [2] (fun i wr => ∃ k : Nat, k ≤ N ∧ i = .int .i64 k ∧ Hid (∃ E', Grew w0 w 9 103 1 markT (.slice ta E.length tc) E E' k wr)) (fun i _ => N - (intOf i).toNat)
  case atStart => exact ⟨0, Nat.zero_le _, rfl, Lib.hid ⟨E, HS0.out⟩⟩
  case round =>
    obtain ⟨k, hk, rfl, hI⟩ := hrel
    obtain ⟨wo, rfl⟩ : ∃ wo, wo = wr := ⟨_, rfl⟩
    obtain ⟨E', hE'⟩ := hI.out
    have hcb : wo.heap[b]? = some (.cells cs 35 (0, 0)) := hE'.chg.keep HCs.out.1 HCs.out.2.2
    have xr := cell_in hcb HCs.out.2.1
    by_cases hlt : k < N
    · have hkE : k < E.length := by rw [← HN.out]; exact hlt
      have hkE' : k < E'.length := by rw [hE'.agree.1]; exact hkE
      obtain ⟨v0, hv0⟩ : ∃ v0, v0 = E[k].v := ⟨_, rfl⟩
      obtain ⟨n, hn⟩ : ∃ n, n = E[k].n := ⟨_, rfl⟩
      obtain ⟨m, hm⟩ : ∃ m, m = E[k].m := ⟨_, rfl⟩
      have hmem : E[k] ∈ E := List.getElem_mem hkE
      have hsm := HH.out.small _ hmem
      rw [← hn, ← hm] at hsm
      obtain ⟨hn9, hm9⟩ := hsm
      obtain ⟨hgn, hxs⟩ := hE'.new k hkE hkE' (Nat.le_refl _)
      rw [← hv0, ← hn, ← hm] at hxs
      obtain ⟨va, vc, rfl, hvc, _⟩ := hxs.form
      have hrow := hE'.row
      rw [hE'.agree.1, ← HN.out] at hrow
      obtain ⟨tg, hta⟩ : ∃ tg, ta = some ⟨tg, 0, none⟩ := by
        rcases HS0.out.row.2 with ⟨e, hz⟩ | ⟨g, cap, cur, e, _⟩
        · omega
        · cases e; exact ⟨g, rfl⟩
      subst hta
      obtain ⟨g1, g2, g3⟩ := heldC_get hkE'
      obtain ⟨a1, a2, a3⟩ := hE'.agree.2 k hkE hkE'
      have y0 := hrow.cell rfl (i := k * 3) (by omega)
      have y1 := hrow.cell rfl (i := k * 3 + 1) (by omega)
      have y2 := hrow.cell rfl (i := k * 3 + 2) (by omega)
      rw [g1, a1, ← hv0] at y0
      rw [g2, hgn] at y1
      rw [g3, a3, ← hm] at y2
      obtain ⟨w4, hw4⟩ : ∃ w4, w4 = wo.alloc (.cells #[.slice va n vc, .slice none 0 0, .int .i64 m] 103) := ⟨_, rfl⟩
      have hb4 : w4.heap[wo.heap.size]? = some (.cells #[.slice va n vc, .slice none 0 0, .int .i64 m] 103 (0, 0)) := by rw [hw4]; exact heap_new _ _
      have hbl4 : Below wo.heap.size wo w4 := by rw [hw4]; exact (Below.refl _ _).alloc (Nat.le_refl _) _
      have z0 := cell_in hb4 (i := 0) rfl
      have hbv : ∀ j, vblock (.slice va n vc) = some j → blocksV E j := fun j hj => ⟨E[k], hmem, by rw [← hv0]; exact hj⟩
      have hbo : ∀ x, blocksV E x ∨ vblock (.slice (some ⟨tg, 0, none⟩) E.length tc) = some x → w0.heap.size ≤ x := fun x hx => hx.elim (HE.out.1 x) (HE.out.2 x)
      have HX := Lib.hid (show SliceN w4 0 9 1 (.slice va n vc) n (rep n (markT m)) ∧ (∀ j, vblock (.slice va n vc) = some j → j < w.heap.size) ∧ Base w0 w4 from ⟨hxs.below hbl4, fun j hj => HLt.out j (.inl (hbv j hj)), (HB.out.chg hE'.chg hbo).below hbl4⟩)
      have HBv := Lib.hid (And.intro hbv (And.intro hb4 (And.intro hbl4 hcb)))
      have HE3 := Lib.hid (And.intro hv0 (And.intro hn (And.intro hm (And.intro hE' (And.intro hkE hkE')))))
      have HW4 := Lib.hid hw4
      have hws : w.heap.size ≤ wo.heap.size := hE'.chg.size
      clear hxs hrow g1 g2 g3 hv0 hn hm hw4 hb4 hbl4 hbv hmem a1 a2 a3 hgn hcb hE' hbo
      go_wp2_with fail
      rw [← HW4.out]
      go_loopw [4, 5] (fun lv j wq => ∃ q : Nat, q ≤ 70 ∧ j = .int .i64 q ∧ Hid (SliceN wq 0 9 1 lv (n + q) (rep (n + q) (markT m)) ∧ Reads wq 1 (.slice va n vc) n (rep n (markT m)) ∧ Chg (fun x => vblock (.slice va n vc) = some x) w4 wq ∧ (vblock lv = vblock (.slice va n vc) ∨ ∃ x, vblock lv = some x ∧ wo.heap.size ≤ x))) (fun _ j _ => 70 - (intOf j).toNat)
      case atStart => exact ⟨0, Nat.zero_le _, rfl, Lib.hid ⟨HX.out.1, HX.out.1.reads, Chg.refl _ _, .inl rfl⟩⟩
      case round =>
        obtain ⟨q, hq, rfl, hJ⟩ := hrel
        obtain ⟨hys, hrd, hC, hvb⟩ := hJ.out
        obtain ⟨la, lc, rfl, hlc, _⟩ := hys.form
        have hB2 := HX.out.2.2.chg hC fun j hj => HE.out.1 j (HBv.out.1 j hj)
        have hh : wr.heap[wo.heap.size]? = some (.cells #[.slice va n vc, .slice none 0 0, .int .i64 m] 103 (0, 0)) := hC.keep HBv.out.2.1 fun e => by have := HX.out.2.1 _ e; omega
        have c2 := cell_in hh (i := 2) rfl
        by_cases hlq : q < 70
        · have hdq : decide ((q : Int) < 70) = true := decide_eq_true (by omega)
          have HMk := Lib.hid (markText_any hB2.now m hm9)
          have HJ2 := Lib.hid (And.intro hys (And.intro hrd (And.intro hC hvb)))
          clear hJ hys hC hB2 hh hrd hvb
          go_wp2_with fail
          refine HMk.out.mono ?_
          rintro e w5 ⟨rfl, b5⟩
          obtain ⟨i0, k1, k2, k3, k4⟩ := info_parts info_strB
          obtain ⟨v3, w6, hr, s3, c3, hvb3⟩ := run_append_oneK (P := Tryz.prog) (t := 101) (ty := 101) Tryz.underlying101 k1 k2 k3 k4 rfl (HJ2.out.1.below b5) (Nat.zero_le _) (markT m) rfl (by simp [Value.oneCell']) (by unfold maxLen; omega) (by omega)
          have hrd5 := HJ2.out.2.1.chg (Chg.of_below (fun _ => False) b5) fun _ _ => id
          have hs5 := b5.size
          have HS := Lib.hid (show SliceN w6 0 9 1 v3 (n + (q + 1)) (rep (n + (q + 1)) (markT m)) ∧ Reads w6 1 (.slice va n vc) n (rep n (markT m)) ∧ Chg (fun x => vblock (.slice va n vc) = some x) w4 w6 ∧ (vblock v3 = vblock (.slice va n vc) ∨ ∃ x, vblock v3 = some x ∧ wo.heap.size ≤ x) from by
            have hs6 : SliceN w6 0 9 1 v3 (n + (q + 1)) (rep (n + (q + 1)) (markT m)) := by
              rw [← Nat.add_assoc, rep_succ]; exact s3
            have hwz : wo.heap.size ≤ wr.heap.size := Nat.le_trans HBv.out.2.2.1.size HJ2.out.2.2.1.size
            have hvlt : ∀ j, vblock (.slice va n vc) = some j → j < wo.heap.size := fun j hj => by have := HX.out.2.1 j hj; omega
            have hw6 : Chg (fun x => vblock (.slice va n vc) = some x) w4 w6 := (HJ2.out.2.2.1.trans (Chg.of_below _ b5) fun j hj _ => hj).trans c3 fun j hj hlt4 => by
              rcases HJ2.out.2.2.2 with e | ⟨x, e, hx⟩
              · rw [e] at hj; exact hj.1
              · rw [e] at hj
                obtain ⟨hj1, _⟩ := hj
                cases hj1
                have h6 : w4.heap.size = wo.heap.size + 1 := by rw [HW4.out]; simp
                have h7 := (HJ2.out.1.block_lt e).1
                by_cases hxe : j = wo.heap.size
                · have hrow := HJ2.out.1
                  have hcel : wr.heap[wo.heap.size]? = some (.cells #[.slice va n vc, .slice none 0 0, .int .i64 m] 103 (0, 0)) := HJ2.out.2.2.1.keep HBv.out.2.1 fun e2 => by have := HX.out.2.1 _ e2; omega
                  exfalso
                  rcases hrow.2 with ⟨e3, _⟩ | ⟨g3, cap3, cur3, e3, _, ⟨fz, _, hrw⟩, _⟩
                  · rw [e3] at e; cases e
                  · rw [e3] at e
                    have hjg : g3 = j := Option.some.inj e
                    rw [hjg, hxe, hcel] at hrw
                    cases hrw
                · omega
            refine ⟨hs6, ?_, hw6, ?_⟩
            · by_cases hst : vblock v3 = vblock (.slice la (n + q) lc) ∧ vblock (.slice la (n + q) lc) = vblock (.slice va n vc)
              · rcases hs6.reads with ⟨rfl, hz⟩ | ⟨g, cap, rfl, _, _, hcl⟩
                · omega
                · rcases hrd5 with h0 | ⟨g', cap', e, h1, h2, h3⟩
                  · exact .inl h0
                  · have hgg : g = g' := by
                      have e9 := hst.1.trans hst.2
                      rw [e] at e9
                      cases e9; rfl
                    subst hgg
                    refine .inr ⟨g, cap', e, h1, h2, fun i hi => ?_⟩
                    rw [hcl i (by omega), rep_prefix n (q + 1) (markT m) (by simpa using hi)]
              · refine hrd5.chg c3 fun j hj ⟨h1, h2⟩ => hst ?_
                rw [h1, h2, hj]
                exact ⟨rfl, rfl⟩
            · rcases hvb3 with e | ⟨x, e, hx⟩
              · rw [e]; exact HJ2.out.2.2.2
              · exact .inr ⟨x, e, by omega⟩)
          have HR := Lib.hid hr
          obtain ⟨a3, c3', rfl, _⟩ := s3.form
          clear hr s3 c3 hvb3 k1 k2 k3 k4 hrd5 hs5 b5
          go_wp2_with (at_builtin; refine wpList_append_run rfl rfl HR.out ?_)
          go_roundw
          case rel => exact ⟨q + 1, by omega, by go_num, HS⟩
          case measure => simp [intOf]; omega
        · obtain rfl : q = 70 := by omega
          rw [show ((70 : Nat) : Int) = 70 from rfl]
          have hd70 : decide ((70 : Int) < 70) = false := by decide
          obtain ⟨hv0, hn, hm, hE', hkE, hkE'⟩ := HE3.out
          have hcw : Chg (fun x => vblock (.slice va n vc) = some x) wo wr := (Chg.of_below _ HBv.out.2.2.1).trans hC fun j hj _ => hj
          have hvbk : ∀ x, vblock (.slice va n vc) = some x → blocksV E x := HBv.out.1
          have hcb2 : wr.heap[b]? = some (.cells cs 35 (0, 0)) := hcw.keep HBv.out.2.2.2 fun e => HCs.out.2.2 (.inl (hvbk _ e))
          have xb2 := cell_in hcb2 HCs.out.2.1
          have hrow2 := hE'.row.chg hcw fun j hj e => by
            obtain ⟨h1, hh1, e1⟩ := hvbk j e
            exact HH.out.offt h1 hh1 j e1 hj
          have hrow3 := hrow2
          rw [hE'.agree.1, ← HN.out] at hrow3
          have y1' := hrow3.cell rfl (i := k * 3 + 1) (by omega)
          rw [(heldC_get hkE').2.1, (hE'.new k hkE hkE' (Nat.le_refl _)).1] at y1'
          obtain ⟨hput, hfz⟩ := hrow2.put (g := tg) (c := tc) (m := E.length) rfl (p := k * 3 + 1) (by omega) (.slice la (n + 70) lc)
          obtain ⟨w7, hw7⟩ : ∃ w7, w7 = wr.setCell ⟨tg, k * 3 + 1, none⟩ (.slice la (n + 70) lc) := ⟨_, rfl⟩
          rw [← hw7] at hput
          have hc7 : Chg (fun x => x = tg) wr w7 := by rw [hw7]; exact Chg.setCell _ _ _ _ rfl
          have HS := Lib.hid (show ∃ E', Grew w0 w 9 103 1 markT (.slice (some ⟨tg, 0, none⟩) E.length tc) E E' (k + 1) w7 from by
            have htgl : tg < w.heap.size := HLt.out tg (.inr rfl)
            have hntg : ∀ j (h1 : j < E.length), ∀ x, vblock E[j].v = some x → x ≠ tg := fun j h1 x hx e => HH.out.offt _ (List.getElem_mem h1) x hx (by rw [e]; rfl)
            refine ⟨E'.set k { E'[k] with g := .slice la (n + 70) lc }, hE'.agree.set hkE' _, ?_, ?_, ?_, ?_⟩
            · rw [List.length_set, heldC_set hkE']; exact hput
            · intro j h1 h2 hjk
              have h2' : j < E'.length := by rw [List.length_set] at h2; exact h2
              rw [List.getElem_set]
              by_cases hjk2 : k = j
              · subst hjk2
                rw [if_pos rfl, ← hv0, ← hn, ← hm]
                refine ⟨hrd.chg hc7 fun x hx e => hntg k hkE x (by rw [← hv0]; exact hx) e, hys.reads.chg hc7 fun x hx e => ?_, ?_⟩
                · rcases hvb with e2 | ⟨y, e2, hy⟩
                  · rw [e2] at hx
                    exact hntg k hkE x (by rw [← hv0]; exact hx) e
                  · rw [e2] at hx; cases hx; omega
                · rcases hvb with e2 | ⟨y, e2, hy⟩
                  · exact .inl e2
                  · exact .inr ⟨y, e2, by omega⟩
              · rw [if_neg hjk2]
                obtain ⟨o1, o2, o3⟩ := hE'.old j h1 h2' (by omega)
                have hvv : ∀ x, vblock E[j].v = some x → ¬ vblock (.slice va n vc) = some x := fun x hx hy => HH.out.apart j k h1 hkE (fun e => hjk2 e.symm) x hx (by rw [← hv0]; exact hy)
                have hgv : ∀ x, vblock E'[j].g = some x → ¬ vblock (.slice va n vc) = some x ∧ x ≠ tg := fun x hx => by
                  rcases o3 with e2 | ⟨y, e2, hy⟩
                  · rw [e2] at hx; exact ⟨hvv x hx, hntg j h1 x hx⟩
                  · rw [e2] at hx; cases hx
                    exact ⟨fun e3 => by have := HX.out.2.1 _ e3; omega, by omega⟩
                exact ⟨(o1.chg hcw fun x hx => hvv x hx).chg hc7 fun x hx e => hntg j h1 x hx e, (o2.chg hcw fun x hx => (hgv x hx).1).chg hc7 fun x hx e => (hgv x hx).2 e, o3⟩
            · intro j h1 h2 hjk
              have h2' : j < E'.length := by rw [List.length_set] at h2; exact h2
              rw [List.getElem_set, if_neg (by omega)]
              obtain ⟨o1, o2⟩ := hE'.new j h1 h2' (by omega)
              exact ⟨o1, (o2.chg hcw fun x hx hy => HH.out.apart j k h1 hkE (by omega) x hx (by rw [← hv0]; exact hy)).chg hc7 fun x hx e => hntg j h1 x hx e⟩
            · exact (hE'.chg.trans hcw fun x hx _ => .inl (hvbk x hx)).trans hc7 fun x hx _ => .inr (by rw [hx]; rfl))
          have HW7 := Lib.hid hw7
          clear hJ hys hC hB2 hh hrd hvb hE' hv0 hn hm hcw hvbk hcb2 hrow2 hrow3 hput hw7 hc7
          go_wp2_with fail
          rw [← HW7.out]
          go_roundw
          case rel => exact ⟨k + 1, by omega, by go_num, HS⟩
          case measure => simp [intOf]; omega
    · obtain rfl : k = N := by omega
      have HS := Lib.hid (show (∃ E', Grown wo b 3 103 1 markT (.slice ta E.length tc) E' ∧ Agree E E' ∧ ∀ h ∈ E', vblock h.g = vblock h.v ∨ ∃ x, vblock h.g = some x ∧ w.heap.size ≤ x) ∧ Chg (fun x => blocksV E x ∨ vblock (.slice ta E.length tc) = some x) w wo from by
        refine ⟨⟨E', ⟨⟨cs, hcb, by rw [← HN.out]; exact HCs.out.2.1⟩, hE'.row, ?_, ?_, ?_⟩, hE'.agree, ?_⟩, hE'.chg⟩
        · rw [hE'.agree.1]; exact HH.out.few
        · intro h hh
          obtain ⟨j, hj, rfl⟩ := List.getElem_of_mem hh
          have hj0 : j < E.length := by rw [← hE'.agree.1]; exact hj
          obtain ⟨_, a2, a3⟩ := hE'.agree.2 j hj0 hj
          rw [a2, a3]
          exact HH.out.small _ (List.getElem_mem hj0)
        · intro h hh
          obtain ⟨j, hj, rfl⟩ := List.getElem_of_mem hh
          have hj0 : j < E.length := by rw [← hE'.agree.1]; exact hj
          obtain ⟨a1, a2, a3⟩ := hE'.agree.2 j hj0 hj
          obtain ⟨h1, h2, _⟩ := hE'.old j hj0 hj (by rw [HN.out]; exact hj0)
          rw [a1, a2, a3]
          exact ⟨h1, h2⟩
        · intro h hh
          obtain ⟨j, hj, rfl⟩ := List.getElem_of_mem hh
          have hj0 : j < E.length := by rw [← hE'.agree.1]; exact hj
          obtain ⟨a1, a2, a3⟩ := hE'.agree.2 j hj0 hj
          obtain ⟨_, _, h3⟩ := hE'.old j hj0 hj (by rw [HN.out]; exact hj0)
          rw [a1]
          exact h3)
      clear hI hE' hcb
      go_wp2_with fail
      go_end0
      exact ⟨⟨_, rfl⟩, HS.out⟩
end Go.Proofs.YtmaemgihhipllaaGreatDoor

/- The book: lookText. -/
namespace Go.Proofs.YtmaemgihhipllaaGreatDoor
set_option linter.unusedVariables false
set_option linter.unusedSimpArgs false
open Go.RowKit
theorem rep_one (n : Nat) (u : Value) {i : Nat} (hi : i < n) : (rep n [u]).getD i undef = u := by
  have := rep_get n [u] (k := i) (j := 0) hi (by simp)
  simpa using this
set_option maxHeartbeats 6400000 in
set_option maxRecDepth 100000 in
theorem lookText_any {w0 w : World} (hB : Base w0 w) {b : Nat} {tv : Value} {E : List Held} (h : Grown w b 3 103 1 markT tv E) :
    Calls Tryz.prog 42 #[bkp b] w fun e w' => e = .returned (.bool true) ∧ Below w.heap.size w w' := by
  obtain ⟨N, hN⟩ : ∃ N, N = E.length := ⟨_, rfl⟩
  obtain ⟨ta, tc, rfl, htc, _⟩ := h.row.form
  rw [← hN] at htc
  have hN6 : N ≤ 1000000 := by have := h.few; omega
  have HH := Lib.hid h
  have HB := Lib.hid hB
  have HN := Lib.hid hN
  obtain ⟨cs, hcs, hci⟩ := h.head
  rw [← hN] at hci
  have HCs := Lib.hid (And.intro hcs hci)
  clear h hB hN hcs hci
  go_enter Tryz.func42, Tryz.ntmps42
  go_wp2_with fail
  go_loopw [3] (fun i wr => ∃ k : Nat, k ≤ N ∧ i = .int .i64 k ∧ Hid (Below w.heap.size w wr)) (fun i _ => N - (intOf i).toNat)
  case atStart => exact ⟨0, Nat.zero_le _, rfl, Lib.hid (Below.refl _ _)⟩
  case round =>
    obtain ⟨k, hk, rfl, hI⟩ := hrel
    obtain ⟨wo, rfl⟩ : ∃ wo, wo = wr := ⟨_, rfl⟩
    have hcb : wo.heap[b]? = some (.cells cs 35 (0, 0)) := (Chg.of_below (fun _ => False) hI.out).keep HCs.out.1 id
    have xr := cell_in hcb HCs.out.2
    by_cases hlt : k < N
    · have hkE : k < E.length := by rw [← HN.out]; exact hlt
      obtain ⟨v0, hv0⟩ : ∃ v0, v0 = E[k].v := ⟨_, rfl⟩
      obtain ⟨g0, hg0⟩ : ∃ g0, g0 = E[k].g := ⟨_, rfl⟩
      obtain ⟨n, hn⟩ : ∃ n, n = E[k].n := ⟨_, rfl⟩
      obtain ⟨m, hm⟩ : ∃ m, m = E[k].m := ⟨_, rfl⟩
      have hmem : E[k] ∈ E := List.getElem_mem hkE
      have hsm := HH.out.small _ hmem
      rw [← hn, ← hm] at hsm
      obtain ⟨hn9, hm9⟩ := hsm
      obtain ⟨hxv, hxg⟩ := HH.out.got _ hmem
      rw [← hv0, ← hn, ← hm] at hxv
      rw [← hg0, ← hn, ← hm] at hxg
      obtain ⟨va, vc, rfl, hvc, _⟩ := hxv.form
      obtain ⟨ga, gc, rfl, hgc, _⟩ := hxg.form
      have hrow := HH.out.row.below hI.out
      rw [← HN.out] at hrow
      obtain ⟨tg, hta⟩ : ∃ tg, ta = some ⟨tg, 0, none⟩ := by
        rcases hrow.2 with ⟨e, hz⟩ | ⟨g, cap, cur, e, _⟩
        · omega
        · cases e; exact ⟨g, rfl⟩
      subst hta
      obtain ⟨g1, g2, g3⟩ := heldC_get hkE
      have y0 := hrow.cell rfl (i := k * 3) (by omega)
      have y1 := hrow.cell rfl (i := k * 3 + 1) (by omega)
      have y2 := hrow.cell rfl (i := k * 3 + 2) (by omega)
      rw [g1, ← hv0] at y0
      rw [g2, ← hg0] at y1
      rw [g3, ← hm] at y2
      obtain ⟨w4, hw4⟩ : ∃ w4, w4 = wo.alloc (.cells #[.slice va n vc, .slice ga (n + 70) gc, .int .i64 m] 103) := ⟨_, rfl⟩
      have hb4 : w4.heap[wo.heap.size]? = some (.cells #[.slice va n vc, .slice ga (n + 70) gc, .int .i64 m] 103 (0, 0)) := by rw [hw4]; exact heap_new _ _
      have hbl4 : Below wo.heap.size wo w4 := by rw [hw4]; exact (Below.refl _ _).alloc (Nat.le_refl _) _
      have z0 := cell_in hb4 (i := 0) rfl
      have z1 := cell_in hb4 (i := 1) rfl
      have hbw4 : Below w.heap.size w w4 := hI.out.trans (hbl4.mono hI.out.size)
      have HX := Lib.hid (show Reads w4 1 (.slice va n vc) n (rep n (markT m)) ∧ Reads w4 1 (.slice ga (n + 70) gc) (n + 70) (rep (n + 70) (markT m)) ∧ Base w0 w4 ∧ Below w.heap.size w w4 from
        ⟨hxv.chg (Chg.of_below (fun _ => False) hbw4) fun _ _ => id, hxg.chg (Chg.of_below (fun _ => False) hbw4) fun _ _ => id, HB.out.below hbw4, hbw4⟩)
      have HW4 := Lib.hid hw4
      have HB4 := Lib.hid hb4
      have hne : (((n + 70 : Nat) : Int) != (n : Int) + 70) = false := by rw [bne_eq_false_iff_eq]; omega
      clear hxv hxg hrow g1 g2 g3 hv0 hg0 hn hm hw4 hb4 hbl4 hmem hbw4
      go_wp2_with fail
      rw [← HW4.out]
      go_loopw [5] (fun j wq => ∃ q : Nat, q ≤ n + 70 ∧ j = .int .i64 q ∧ Hid (Below w4.heap.size w4 wq)) (fun j _ => n + 70 - (intOf j).toNat)
      case atStart => exact ⟨0, Nat.zero_le _, rfl, Lib.hid (Below.refl _ _)⟩
      case round =>
        obtain ⟨q, hq, rfl, hJ⟩ := hrel
        have hh : wr.heap[wo.heap.size]? = some (.cells #[.slice va n vc, .slice ga (n + 70) gc, .int .i64 m] 103 (0, 0)) := (Chg.of_below (fun _ => False) hJ.out).keep HB4.out id
        have c1 := cell_in hh (i := 1) rfl
        by_cases hlq : q < n + 70
        · have hdq : decide ((q : Int) < (n : Int) + 70) = true := decide_eq_true (by omega)
          have hdq2 : decide (q < n + 70) = true := decide_eq_true (by omega)
          have hbd : Below w4.heap.size w4 wr.drew := belowN hJ.out 1
          obtain ⟨gg, gcap, hge, hgc2⟩ := (HX.out.2.1.chg (Chg.of_below (fun _ => False) hbd) fun _ _ => id).get (i := q) (by omega)
          rw [rep_one _ _ hlq] at hgc2
          cases hge
          have hd : ∀ w5, Below wr.drew.heap.size wr.drew w5 → w5.heap[wo.heap.size]? = some (.cells #[.slice va n vc, .slice (some ⟨gg, 0, none⟩) (n + 70) gc, .int .i64 m] 103 (0, 0)) ∧ w5.cell? ⟨gg, q, none⟩ = some (.string (wordB m)) := fun w5 b5 =>
            ⟨(Chg.of_below (fun _ => False) b5).keep hh id, cell_chg (Chg.of_below (fun _ => False) b5) hgc2 id⟩
          by_cases hqn : q < n
          · have hqd : decide ((q : Int) < (n : Int)) = true := decide_eq_true (by omega)
            have hqd2 : decide (q < n) = true := decide_eq_true (by omega)
            obtain ⟨vg, vcap, hve, hvc2⟩ := (HX.out.1.chg (Chg.of_below (fun _ => False) hbd) fun _ _ => id).get (i := q) (by omega)
            rw [rep_one _ _ hqn] at hvc2
            cases hve
            obtain ⟨X1, f, hX1, hff, hF⟩ := classOf (fun y => (y.heap[wo.heap.size]? = some (.cells #[.slice (some ⟨vg, 0, none⟩) n vc, .slice (some ⟨gg, 0, none⟩) (n + 70) gc, .int .i64 m] 103 (0, 0)) ∧ y.cell? ⟨gg, q, none⟩ = some (.string (wordB m))) ∧ y.cell? ⟨vg, q, none⟩ = some (.string (wordB m))) (w := wr.drew) ⟨hd _ (Below.refl _ _), hvc2⟩
            have hf0 := fun x => cell_in (hff x).1.1 (i := 0) rfl
            have hf1 := fun x => cell_in (hff x).1.1 (i := 1) rfl
            have hf2 := fun x => cell_in (hff x).1.1 (i := 2) rfl
            have hf3 := fun x => (hff x).1.2
            have hf4 := fun x => (hff x).2
            have H0 := Lib.hid (hF wr.drew ⟨hd _ (Below.refl _ _), hvc2⟩)
            have HFc := Lib.hid (fun (w5 : World) (b5 : Below wr.drew.heap.size wr.drew w5) => hF w5 ⟨hd w5 b5, cell_chg (Chg.of_below (fun _ => False) b5) hvc2 id⟩)
            have HIs := Lib.hid (fun (w5 : World) (b5 : Below wr.drew.heap.size wr.drew w5) => isText_any (((HX.out.2.2.1.below hbd).below b5).now) m hm9)
            have HJ2 := Lib.hid hJ.out
            clear hJ hh hff hF hd hgc2 hvc2 hbd
            generalize wordB m = t at *
            go_wp2_with fail
            refine wp_region_text ⟨[7, 23], [], 27⟩ (fun w' => ∃ x : X1, w' = f x) (by kernel_rfl) (by kernel_rfl) H0.out ?_
            refine wpC_seg false (H0.out) 7 0 _ _ (by rfl) (by rfl) ?_
            simp only [List.take_succ_cons, List.take_zero, List.drop_succ_cons, List.drop_zero, Bool.false_eq_true, if_false, Nat.zero_add, Nat.reduceAdd]
            repeat (go_big_quiet_step (fail))
            refine wpQuiet_nil ?_
            refine wpC_loud (by rfl) (by rfl) fun K hK => ?_
            go_wp2_with fail
            refine (HIs.out _ (Below.refl _ _)).mono ?_
            rintro e w5 ⟨rfl, b5⟩
            have HB5 := Lib.hid b5
            have H5 := Lib.hid (HFc.out w5 b5)
            refine hK _ _ (fun _ => H5.out) ?_
            clear hK b5
            refine wpC_seg false (H5.out) 15 8 _ _ (by rfl) (by rfl) ?_
            simp only [List.take_succ_cons, List.take_zero, List.drop_succ_cons, List.drop_zero, Bool.false_eq_true, if_false, Nat.zero_add, Nat.reduceAdd]
            repeat (go_big_quiet_step (fail))
            refine wpQuiet_nil ?_
            refine wpC_loud (by rfl) (by rfl) fun K hK => ?_
            go_wp2_with fail
            refine (HIs.out _ HB5.out).mono ?_
            rintro e w6 ⟨rfl, b6⟩
            have HB6 := Lib.hid (HB5.out.trans (b6.mono HB5.out.size))
            have H6 := Lib.hid (HFc.out w6 HB6.out)
            refine hK _ _ (fun _ => H6.out) ?_
            clear hK b6
            refine wpC_seg false (H6.out) 3 24 _ _ (by rfl) (by rfl) ?_
            simp only [List.take_succ_cons, List.take_zero, List.drop_succ_cons, List.drop_zero, Bool.false_eq_true, if_false, Nat.zero_add, Nat.reduceAdd]
            repeat (go_big_quiet_step (fail))
            refine wpQuiet_nil ?_
            refine wpC_nil ?_
            have HS := Lib.hid (show Below w4.heap.size w4 w6 from HJ2.out.trans ((belowN (Below.refl wr.heap.size wr) 1).trans HB6.out |>.mono HJ2.out.size))
            clear hf0 hf1 hf2 hf3 hf4 hX1 H0 H5 H6 HFc HIs
            go_wp2_with fail
            go_roundw
            case rel => exact ⟨q + 1, by omega, by go_num, HS⟩
            case measure => simp [intOf]; omega
          · have hqd : decide ((q : Int) < (n : Int)) = false := decide_eq_false (by omega)
            have hqd2 : decide (q < n) = false := decide_eq_false (by omega)
            obtain ⟨X1, f, hX1, hff, hF⟩ := classOf (fun y => y.heap[wo.heap.size]? = some (.cells #[.slice va n vc, .slice (some ⟨gg, 0, none⟩) (n + 70) gc, .int .i64 m] 103 (0, 0)) ∧ y.cell? ⟨gg, q, none⟩ = some (.string (wordB m))) (w := wr.drew) (hd _ (Below.refl _ _))
            have hf0 := fun x => cell_in (hff x).1 (i := 0) rfl
            have hf1 := fun x => cell_in (hff x).1 (i := 1) rfl
            have hf2 := fun x => cell_in (hff x).1 (i := 2) rfl
            have hf3 := fun x => (hff x).2
            have H0 := Lib.hid (hF wr.drew (hd _ (Below.refl _ _)))
            have HFc := Lib.hid (fun (w5 : World) (b5 : Below wr.drew.heap.size wr.drew w5) => hF w5 (hd w5 b5))
            have HIs := Lib.hid (isText_any ((HX.out.2.2.1.below hbd).now) m hm9)
            have HJ2 := Lib.hid hJ.out
            clear hJ hh hff hF hd hgc2 hbd
            generalize wordB m = t at *
            go_wp2_with fail
            refine wp_region_text ⟨[7, 23], [], 27⟩ (fun w' => ∃ x : X1, w' = f x) (by kernel_rfl) (by kernel_rfl) H0.out ?_
            refine wpC_seg false (H0.out) 7 0 _ _ (by rfl) (by rfl) ?_
            simp only [List.take_succ_cons, List.take_zero, List.drop_succ_cons, List.drop_zero, Bool.false_eq_true, if_false, Nat.zero_add, Nat.reduceAdd]
            repeat (go_big_quiet_step (fail))
            refine wpQuiet_nil ?_
            refine wpC_loud (by rfl) (by rfl) fun K hK => ?_
            go_wp2_with fail
            refine HIs.out.mono ?_
            rintro e w5 ⟨rfl, b5⟩
            have HB5 := Lib.hid b5
            have H5 := Lib.hid (HFc.out w5 b5)
            refine hK _ _ (fun _ => H5.out) ?_
            clear hK b5
            refine wpC_seg false (H5.out) 15 8 _ _ (by rfl) (by rfl) ?_
            simp only [List.take_succ_cons, List.take_zero, List.drop_succ_cons, List.drop_zero, Bool.false_eq_true, if_false, Nat.zero_add, Nat.reduceAdd]
            repeat (go_big_quiet_step (fail))
            refine wpQuiet_nil ?_
            refine wpC_skip (by rfl) (by rfl) (fun _ => H5.out) ?_
            simp only [Act.put, List.setIfInBounds_toArray, List.set_cons_succ, List.set_cons_zero]
            refine wpC_seg false (H5.out) 3 24 _ _ (by rfl) (by rfl) ?_
            simp only [List.take_succ_cons, List.take_zero, List.drop_succ_cons, List.drop_zero, Bool.false_eq_true, if_false, Nat.zero_add, Nat.reduceAdd]
            repeat (go_big_quiet_step (fail))
            refine wpQuiet_nil ?_
            refine wpC_nil ?_
            have HS := Lib.hid (show Below w4.heap.size w4 w5 from HJ2.out.trans ((belowN (Below.refl wr.heap.size wr) 1).trans HB5.out |>.mono HJ2.out.size))
            clear hf0 hf1 hf2 hf3 hX1 H0 H5 HFc HIs
            go_wp2_with fail
            go_roundw
            case rel => exact ⟨q + 1, by omega, by go_num, HS⟩
            case measure => simp [intOf]; omega
        · obtain rfl : q = n + 70 := by omega
          have HS := Lib.hid (show Below w.heap.size w wr from HX.out.2.2.2.trans (hJ.out.mono HX.out.2.2.2.size))
          have hdq : decide (((n + 70 : Nat) : Int) < ((n + 70 : Nat) : Int)) = false := decide_eq_false (by omega)
          clear hJ hh
          go_wp2_with fail
          go_roundw
          case rel => exact ⟨k + 1, by omega, by go_num, HS⟩
          case measure => simp [intOf]; omega
    · obtain rfl : k = N := by omega
      have HS := Lib.hid hI.out
      clear hI
      go_wp2_with fail
      go_ret
      exact ⟨rfl, HS.out⟩
end Go.Proofs.YtmaemgihhipllaaGreatDoor

/- The book: keepText, Texts. -/
namespace Go.Proofs.YtmaemgihhipllaaGreatDoor
set_option linter.unusedVariables false
set_option linter.unusedSimpArgs false
open Go.RowKit
theorem heldC_snoc (E : List Held) (h : Held) : heldC (E ++ [h]) = heldC E ++ [h.v, h.g, .int .i64 h.m] := by
  unfold heldC
  rw [List.flatMap_append]; simp
theorem info_heldText : (Tryz.prog.info? 103).map (fun i => (i.zero, i.size, i.bytes)) = some (some (.agg #[.slice none 0 0, .slice none 0 0, .int .i64 0]), 3, 56) := by kernel_rfl
/-- A book that has kept one more list of a kind. -/
def Kept (w : World) (b I : Nat) (HT : TypeId) (cs : Array Value) (c : Nat) (tv : Value) (E : List Held) (v : Value) (n : Nat) (w' : World) : Prop :=
  ∃ tv', w'.heap[b]? = some (.cells ((cs.setIfInBounds 0 (.int .i64 ((c + 1 : Nat) : Int))).setIfInBounds I tv') 35 (0, 0)) ∧ SliceN w' 0 HT 3 tv' (E ++ [(⟨v, .slice none 0 0, n, c + 1⟩ : Held)]).length (heldC (E ++ [(⟨v, .slice none 0 0, n, c + 1⟩ : Held)])) ∧
    (vblock tv' = vblock tv ∨ ∃ k, vblock tv' = some k ∧ w.heap.size ≤ k) ∧ Chg (fun k => k = b ∨ vblock tv = some k) w w'
end Go.Proofs.YtmaemgihhipllaaGreatDoor

/- The book: a kind of which it holds nothing. (Printed by gen_bk8.py.) -/
namespace Go.Proofs.YtmaemgihhipllaaGreatDoor
set_option linter.unusedVariables false
set_option linter.unusedSimpArgs false
open Go.RowKit
set_option maxHeartbeats 800000 in
set_option maxRecDepth 100000 in
theorem fillByte_none {w : World} {b : Nat} {cs : Array Value} (hb : w.heap[b]? = some (.cells cs 35 (0, 0))) (hI : cs[1]? = some (.slice none 0 0)) :
    Calls Tryz.prog 22 #[bkp b] w fun e w' => (∃ v, e = .returned v) ∧ w = w' := by
  have x0 := cell_in hb hI
  clear hb hI
  go_enter Tryz.func22, Tryz.ntmps22
  go_wp2_with fail
  go_loop [2] (fun i => i = .int .i64 0) (fun _ => 0)
  case atStart => rfl
  case round =>
    obtain rfl := hrel
    go_wp2_with fail
    go_end0
    exact ⟨⟨_, rfl⟩, rfl⟩
set_option maxHeartbeats 800000 in
set_option maxRecDepth 100000 in
theorem growByte_none {w : World} {b : Nat} {cs : Array Value} (hb : w.heap[b]? = some (.cells cs 35 (0, 0))) (hI : cs[1]? = some (.slice none 0 0)) :
    Calls Tryz.prog 31 #[bkp b] w fun e w' => (∃ v, e = .returned v) ∧ w = w' := by
  have x0 := cell_in hb hI
  clear hb hI
  go_enter Tryz.func31, Tryz.ntmps31
  go_wp2_with fail
  go_loop [2] (fun i => i = .int .i64 0) (fun _ => 0)
  case atStart => rfl
  case round =>
    obtain rfl := hrel
    go_wp2_with fail
    go_end0
    exact ⟨⟨_, rfl⟩, rfl⟩
set_option maxHeartbeats 800000 in
set_option maxRecDepth 100000 in
theorem lookByte_none {w : World} {b : Nat} {cs : Array Value} (hb : w.heap[b]? = some (.cells cs 35 (0, 0))) (hI : cs[1]? = some (.slice none 0 0)) :
    Calls Tryz.prog 40 #[bkp b] w fun e w' => e = .returned (.bool true) ∧ w = w' := by
  have x0 := cell_in hb hI
  clear hb hI
  go_enter Tryz.func40, Tryz.ntmps40
  go_wp2_with fail
  go_loop [3] (fun i => i = .int .i64 0) (fun _ => 0)
  case atStart => rfl
  case round =>
    obtain rfl := hrel
    go_wp2_with fail
    go_ret
    exact ⟨rfl, rfl⟩
set_option maxHeartbeats 800000 in
set_option maxRecDepth 100000 in
theorem fillInt_none {w : World} {b : Nat} {cs : Array Value} (hb : w.heap[b]? = some (.cells cs 35 (0, 0))) (hI : cs[2]? = some (.slice none 0 0)) :
    Calls Tryz.prog 23 #[bkp b] w fun e w' => (∃ v, e = .returned v) ∧ w = w' := by
  have x0 := cell_in hb hI
  clear hb hI
  go_enter Tryz.func23, Tryz.ntmps23
  go_wp2_with fail
  go_loop [2] (fun i => i = .int .i64 0) (fun _ => 0)
  case atStart => rfl
  case round =>
    obtain rfl := hrel
    go_wp2_with fail
    go_end0
    exact ⟨⟨_, rfl⟩, rfl⟩
set_option maxHeartbeats 800000 in
set_option maxRecDepth 100000 in
theorem growInt_none {w : World} {b : Nat} {cs : Array Value} (hb : w.heap[b]? = some (.cells cs 35 (0, 0))) (hI : cs[2]? = some (.slice none 0 0)) :
    Calls Tryz.prog 32 #[bkp b] w fun e w' => (∃ v, e = .returned v) ∧ w = w' := by
  have x0 := cell_in hb hI
  clear hb hI
  go_enter Tryz.func32, Tryz.ntmps32
  go_wp2_with fail
  go_loop [2] (fun i => i = .int .i64 0) (fun _ => 0)
  case atStart => rfl
  case round =>
    obtain rfl := hrel
    go_wp2_with fail
    go_end0
    exact ⟨⟨_, rfl⟩, rfl⟩
set_option maxHeartbeats 800000 in
set_option maxRecDepth 100000 in
theorem lookInt_none {w : World} {b : Nat} {cs : Array Value} (hb : w.heap[b]? = some (.cells cs 35 (0, 0))) (hI : cs[2]? = some (.slice none 0 0)) :
    Calls Tryz.prog 41 #[bkp b] w fun e w' => e = .returned (.bool true) ∧ w = w' := by
  have x0 := cell_in hb hI
  clear hb hI
  go_enter Tryz.func41, Tryz.ntmps41
  go_wp2_with fail
  go_loop [3] (fun i => i = .int .i64 0) (fun _ => 0)
  case atStart => rfl
  case round =>
    obtain rfl := hrel
    go_wp2_with fail
    go_ret
    exact ⟨rfl, rfl⟩
set_option maxHeartbeats 800000 in
set_option maxRecDepth 100000 in
theorem fillText_none {w : World} {b : Nat} {cs : Array Value} (hb : w.heap[b]? = some (.cells cs 35 (0, 0))) (hI : cs[3]? = some (.slice none 0 0)) :
    Calls Tryz.prog 24 #[bkp b] w fun e w' => (∃ v, e = .returned v) ∧ w = w' := by
  have x0 := cell_in hb hI
  clear hb hI
  go_enter Tryz.func24, Tryz.ntmps24
  go_wp2_with fail
  go_loop [2] (fun i => i = .int .i64 0) (fun _ => 0)
  case atStart => rfl
  case round =>
    obtain rfl := hrel
    go_wp2_with fail
    go_end0
    exact ⟨⟨_, rfl⟩, rfl⟩
set_option maxHeartbeats 800000 in
set_option maxRecDepth 100000 in
theorem growText_none {w : World} {b : Nat} {cs : Array Value} (hb : w.heap[b]? = some (.cells cs 35 (0, 0))) (hI : cs[3]? = some (.slice none 0 0)) :
    Calls Tryz.prog 33 #[bkp b] w fun e w' => (∃ v, e = .returned v) ∧ w = w' := by
  have x0 := cell_in hb hI
  clear hb hI
  go_enter Tryz.func33, Tryz.ntmps33
  go_wp2_with fail
  go_loop [2] (fun i => i = .int .i64 0) (fun _ => 0)
  case atStart => rfl
  case round =>
    obtain rfl := hrel
    go_wp2_with fail
    go_end0
    exact ⟨⟨_, rfl⟩, rfl⟩
set_option maxHeartbeats 800000 in
set_option maxRecDepth 100000 in
theorem lookText_none {w : World} {b : Nat} {cs : Array Value} (hb : w.heap[b]? = some (.cells cs 35 (0, 0))) (hI : cs[3]? = some (.slice none 0 0)) :
    Calls Tryz.prog 42 #[bkp b] w fun e w' => e = .returned (.bool true) ∧ w = w' := by
  have x0 := cell_in hb hI
  clear hb hI
  go_enter Tryz.func42, Tryz.ntmps42
  go_wp2_with fail
  go_loop [3] (fun i => i = .int .i64 0) (fun _ => 0)
  case atStart => rfl
  case round =>
    obtain rfl := hrel
    go_wp2_with fail
    go_ret
    exact ⟨rfl, rfl⟩
set_option maxHeartbeats 800000 in
set_option maxRecDepth 100000 in
theorem fillPair_none {w : World} {b : Nat} {cs : Array Value} (hb : w.heap[b]? = some (.cells cs 35 (0, 0))) (hI : cs[4]? = some (.slice none 0 0)) :
    Calls Tryz.prog 25 #[bkp b] w fun e w' => (∃ v, e = .returned v) ∧ w = w' := by
  have x0 := cell_in hb hI
  clear hb hI
  go_enter Tryz.func25, Tryz.ntmps25
  go_wp2_with fail
  go_loop [2] (fun i => i = .int .i64 0) (fun _ => 0)
  case atStart => rfl
  case round =>
    obtain rfl := hrel
    go_wp2_with fail
    go_end0
    exact ⟨⟨_, rfl⟩, rfl⟩
set_option maxHeartbeats 800000 in
set_option maxRecDepth 100000 in
theorem growPair_none {w : World} {b : Nat} {cs : Array Value} (hb : w.heap[b]? = some (.cells cs 35 (0, 0))) (hI : cs[4]? = some (.slice none 0 0)) :
    Calls Tryz.prog 34 #[bkp b] w fun e w' => (∃ v, e = .returned v) ∧ w = w' := by
  have x0 := cell_in hb hI
  clear hb hI
  go_enter Tryz.func34, Tryz.ntmps34
  go_wp2_with fail
  go_loop [2] (fun i => i = .int .i64 0) (fun _ => 0)
  case atStart => rfl
  case round =>
    obtain rfl := hrel
    go_wp2_with fail
    go_end0
    exact ⟨⟨_, rfl⟩, rfl⟩
set_option maxHeartbeats 800000 in
set_option maxRecDepth 100000 in
theorem lookPair_none {w : World} {b : Nat} {cs : Array Value} (hb : w.heap[b]? = some (.cells cs 35 (0, 0))) (hI : cs[4]? = some (.slice none 0 0)) :
    Calls Tryz.prog 43 #[bkp b] w fun e w' => e = .returned (.bool true) ∧ w = w' := by
  have x0 := cell_in hb hI
  clear hb hI
  go_enter Tryz.func43, Tryz.ntmps43
  go_wp2_with fail
  go_loop [3] (fun i => i = .int .i64 0) (fun _ => 0)
  case atStart => rfl
  case round =>
    obtain rfl := hrel
    go_wp2_with fail
    go_ret
    exact ⟨rfl, rfl⟩
set_option maxHeartbeats 800000 in
set_option maxRecDepth 100000 in
theorem fillScored_none {w : World} {b : Nat} {cs : Array Value} (hb : w.heap[b]? = some (.cells cs 35 (0, 0))) (hI : cs[5]? = some (.slice none 0 0)) :
    Calls Tryz.prog 26 #[bkp b] w fun e w' => (∃ v, e = .returned v) ∧ w = w' := by
  have x0 := cell_in hb hI
  clear hb hI
  go_enter Tryz.func26, Tryz.ntmps26
  go_wp2_with fail
  go_loop [2] (fun i => i = .int .i64 0) (fun _ => 0)
  case atStart => rfl
  case round =>
    obtain rfl := hrel
    go_wp2_with fail
    go_end0
    exact ⟨⟨_, rfl⟩, rfl⟩
set_option maxHeartbeats 800000 in
set_option maxRecDepth 100000 in
theorem growScored_none {w : World} {b : Nat} {cs : Array Value} (hb : w.heap[b]? = some (.cells cs 35 (0, 0))) (hI : cs[5]? = some (.slice none 0 0)) :
    Calls Tryz.prog 35 #[bkp b] w fun e w' => (∃ v, e = .returned v) ∧ w = w' := by
  have x0 := cell_in hb hI
  clear hb hI
  go_enter Tryz.func35, Tryz.ntmps35
  go_wp2_with fail
  go_loop [2] (fun i => i = .int .i64 0) (fun _ => 0)
  case atStart => rfl
  case round =>
    obtain rfl := hrel
    go_wp2_with fail
    go_end0
    exact ⟨⟨_, rfl⟩, rfl⟩
set_option maxHeartbeats 800000 in
set_option maxRecDepth 100000 in
theorem lookScored_none {w : World} {b : Nat} {cs : Array Value} (hb : w.heap[b]? = some (.cells cs 35 (0, 0))) (hI : cs[5]? = some (.slice none 0 0)) :
    Calls Tryz.prog 44 #[bkp b] w fun e w' => e = .returned (.bool true) ∧ w = w' := by
  have x0 := cell_in hb hI
  clear hb hI
  go_enter Tryz.func44, Tryz.ntmps44
  go_wp2_with fail
  go_loop [3] (fun i => i = .int .i64 0) (fun _ => 0)
  case atStart => rfl
  case round =>
    obtain rfl := hrel
    go_wp2_with fail
    go_ret
    exact ⟨rfl, rfl⟩
set_option maxHeartbeats 800000 in
set_option maxRecDepth 100000 in
theorem fillEntry_none {w : World} {b : Nat} {cs : Array Value} (hb : w.heap[b]? = some (.cells cs 35 (0, 0))) (hI : cs[6]? = some (.slice none 0 0)) :
    Calls Tryz.prog 27 #[bkp b] w fun e w' => (∃ v, e = .returned v) ∧ w = w' := by
  have x0 := cell_in hb hI
  clear hb hI
  go_enter Tryz.func27, Tryz.ntmps27
  go_wp2_with fail
  go_loop [2] (fun i => i = .int .i64 0) (fun _ => 0)
  case atStart => rfl
  case round =>
    obtain rfl := hrel
    go_wp2_with fail
    go_end0
    exact ⟨⟨_, rfl⟩, rfl⟩
set_option maxHeartbeats 800000 in
set_option maxRecDepth 100000 in
theorem growEntry_none {w : World} {b : Nat} {cs : Array Value} (hb : w.heap[b]? = some (.cells cs 35 (0, 0))) (hI : cs[6]? = some (.slice none 0 0)) :
    Calls Tryz.prog 36 #[bkp b] w fun e w' => (∃ v, e = .returned v) ∧ w = w' := by
  have x0 := cell_in hb hI
  clear hb hI
  go_enter Tryz.func36, Tryz.ntmps36
  go_wp2_with fail
  go_loop [2] (fun i => i = .int .i64 0) (fun _ => 0)
  case atStart => rfl
  case round =>
    obtain rfl := hrel
    go_wp2_with fail
    go_end0
    exact ⟨⟨_, rfl⟩, rfl⟩
set_option maxHeartbeats 800000 in
set_option maxRecDepth 100000 in
theorem lookEntry_none {w : World} {b : Nat} {cs : Array Value} (hb : w.heap[b]? = some (.cells cs 35 (0, 0))) (hI : cs[6]? = some (.slice none 0 0)) :
    Calls Tryz.prog 45 #[bkp b] w fun e w' => e = .returned (.bool true) ∧ w = w' := by
  have x0 := cell_in hb hI
  clear hb hI
  go_enter Tryz.func45, Tryz.ntmps45
  go_wp2_with fail
  go_loop [3] (fun i => i = .int .i64 0) (fun _ => 0)
  case atStart => rfl
  case round =>
    obtain rfl := hrel
    go_wp2_with fail
    go_ret
    exact ⟨rfl, rfl⟩
set_option maxHeartbeats 800000 in
set_option maxRecDepth 100000 in
theorem fillItem_none {w : World} {b : Nat} {cs : Array Value} (hb : w.heap[b]? = some (.cells cs 35 (0, 0))) (hI : cs[7]? = some (.slice none 0 0)) :
    Calls Tryz.prog 28 #[bkp b] w fun e w' => (∃ v, e = .returned v) ∧ w = w' := by
  have x0 := cell_in hb hI
  clear hb hI
  go_enter Tryz.func28, Tryz.ntmps28
  go_wp2_with fail
  go_loop [2] (fun i => i = .int .i64 0) (fun _ => 0)
  case atStart => rfl
  case round =>
    obtain rfl := hrel
    go_wp2_with fail
    go_end0
    exact ⟨⟨_, rfl⟩, rfl⟩
set_option maxHeartbeats 800000 in
set_option maxRecDepth 100000 in
theorem growItem_none {w : World} {b : Nat} {cs : Array Value} (hb : w.heap[b]? = some (.cells cs 35 (0, 0))) (hI : cs[7]? = some (.slice none 0 0)) :
    Calls Tryz.prog 37 #[bkp b] w fun e w' => (∃ v, e = .returned v) ∧ w = w' := by
  have x0 := cell_in hb hI
  clear hb hI
  go_enter Tryz.func37, Tryz.ntmps37
  go_wp2_with fail
  go_loop [2] (fun i => i = .int .i64 0) (fun _ => 0)
  case atStart => rfl
  case round =>
    obtain rfl := hrel
    go_wp2_with fail
    go_end0
    exact ⟨⟨_, rfl⟩, rfl⟩
set_option maxHeartbeats 800000 in
set_option maxRecDepth 100000 in
theorem lookItem_none {w : World} {b : Nat} {cs : Array Value} (hb : w.heap[b]? = some (.cells cs 35 (0, 0))) (hI : cs[7]? = some (.slice none 0 0)) :
    Calls Tryz.prog 46 #[bkp b] w fun e w' => e = .returned (.bool true) ∧ w = w' := by
  have x0 := cell_in hb hI
  clear hb hI
  go_enter Tryz.func46, Tryz.ntmps46
  go_wp2_with fail
  go_loop [3] (fun i => i = .int .i64 0) (fun _ => 0)
  case atStart => rfl
  case round =>
    obtain rfl := hrel
    go_wp2_with fail
    go_ret
    exact ⟨rfl, rfl⟩
set_option maxHeartbeats 800000 in
set_option maxRecDepth 100000 in
theorem fillCommand_none {w : World} {b : Nat} {cs : Array Value} (hb : w.heap[b]? = some (.cells cs 35 (0, 0))) (hI : cs[8]? = some (.slice none 0 0)) :
    Calls Tryz.prog 29 #[bkp b] w fun e w' => (∃ v, e = .returned v) ∧ w = w' := by
  have x0 := cell_in hb hI
  clear hb hI
  go_enter Tryz.func29, Tryz.ntmps29
  go_wp2_with fail
  go_loop [2] (fun i => i = .int .i64 0) (fun _ => 0)
  case atStart => rfl
  case round =>
    obtain rfl := hrel
    go_wp2_with fail
    go_end0
    exact ⟨⟨_, rfl⟩, rfl⟩
set_option maxHeartbeats 800000 in
set_option maxRecDepth 100000 in
theorem growCommand_none {w : World} {b : Nat} {cs : Array Value} (hb : w.heap[b]? = some (.cells cs 35 (0, 0))) (hI : cs[8]? = some (.slice none 0 0)) :
    Calls Tryz.prog 38 #[bkp b] w fun e w' => (∃ v, e = .returned v) ∧ w = w' := by
  have x0 := cell_in hb hI
  clear hb hI
  go_enter Tryz.func38, Tryz.ntmps38
  go_wp2_with fail
  go_loop [2] (fun i => i = .int .i64 0) (fun _ => 0)
  case atStart => rfl
  case round =>
    obtain rfl := hrel
    go_wp2_with fail
    go_end0
    exact ⟨⟨_, rfl⟩, rfl⟩
set_option maxHeartbeats 800000 in
set_option maxRecDepth 100000 in
theorem lookCommand_none {w : World} {b : Nat} {cs : Array Value} (hb : w.heap[b]? = some (.cells cs 35 (0, 0))) (hI : cs[8]? = some (.slice none 0 0)) :
    Calls Tryz.prog 47 #[bkp b] w fun e w' => e = .returned (.bool true) ∧ w = w' := by
  have x0 := cell_in hb hI
  clear hb hI
  go_enter Tryz.func47, Tryz.ntmps47
  go_wp2_with fail
  go_loop [3] (fun i => i = .int .i64 0) (fun _ => 0)
  case atStart => rfl
  case round =>
    obtain rfl := hrel
    go_wp2_with fail
    go_ret
    exact ⟨rfl, rfl⟩
set_option maxHeartbeats 800000 in
set_option maxRecDepth 100000 in
theorem fillReply_none {w : World} {b : Nat} {cs : Array Value} (hb : w.heap[b]? = some (.cells cs 35 (0, 0))) (hI : cs[9]? = some (.slice none 0 0)) :
    Calls Tryz.prog 30 #[bkp b] w fun e w' => (∃ v, e = .returned v) ∧ w = w' := by
  have x0 := cell_in hb hI
  clear hb hI
  go_enter Tryz.func30, Tryz.ntmps30
  go_wp2_with fail
  go_loop [2] (fun i => i = .int .i64 0) (fun _ => 0)
  case atStart => rfl
  case round =>
    obtain rfl := hrel
    go_wp2_with fail
    go_end0
    exact ⟨⟨_, rfl⟩, rfl⟩
set_option maxHeartbeats 800000 in
set_option maxRecDepth 100000 in
theorem growReply_none {w : World} {b : Nat} {cs : Array Value} (hb : w.heap[b]? = some (.cells cs 35 (0, 0))) (hI : cs[9]? = some (.slice none 0 0)) :
    Calls Tryz.prog 39 #[bkp b] w fun e w' => (∃ v, e = .returned v) ∧ w = w' := by
  have x0 := cell_in hb hI
  clear hb hI
  go_enter Tryz.func39, Tryz.ntmps39
  go_wp2_with fail
  go_loop [2] (fun i => i = .int .i64 0) (fun _ => 0)
  case atStart => rfl
  case round =>
    obtain rfl := hrel
    go_wp2_with fail
    go_end0
    exact ⟨⟨_, rfl⟩, rfl⟩
set_option maxHeartbeats 800000 in
set_option maxRecDepth 100000 in
theorem lookReply_none {w : World} {b : Nat} {cs : Array Value} (hb : w.heap[b]? = some (.cells cs 35 (0, 0))) (hI : cs[9]? = some (.slice none 0 0)) :
    Calls Tryz.prog 48 #[bkp b] w fun e w' => e = .returned (.bool true) ∧ w = w' := by
  have x0 := cell_in hb hI
  clear hb hI
  go_enter Tryz.func48, Tryz.ntmps48
  go_wp2_with fail
  go_loop [3] (fun i => i = .int .i64 0) (fun _ => 0)
  case atStart => rfl
  case round =>
    obtain rfl := hrel
    go_wp2_with fail
    go_ret
    exact ⟨rfl, rfl⟩
end Go.Proofs.YtmaemgihhipllaaGreatDoor

/- The book that holds texts alone: Texts, Apart. (Printed by gen_bk9.py.) -/
namespace Go.Proofs.YtmaemgihhipllaaGreatDoor
set_option linter.unusedVariables false
set_option linter.unusedSimpArgs false
open Go.RowKit
abbrev nilV : Value := .slice none 0 0
abbrev bookC (c : Nat) (tv : Value) : Array Value := #[.int .i64 (c : Int), nilV, nilV, tv, nilV, nilV, nilV, nilV, nilV, nilV]
/-- A book that holds these lists of texts; its blocks. -/
structure BookT (w0 w : World) (b : Nat) (tv : Value) (E : List Held) (Bk : Nat → Prop) : Prop where
  base : Base w0 w
  head : w.heap[b]? = some (.cells (bookC E.length tv) 35 (0, 0))
  row : SliceN w 0 103 3 tv E.length (heldC E)
  offbt : vblock tv ≠ some b
  all : ∀ k, Bk k ↔ k = b ∨ vblock tv = some k ∨ blocksV E k
  old : ∀ k, Bk k → w0.heap.size ≤ k
  few : E.length ≤ 1000000
  small : ∀ h ∈ E, h.n ≤ 1000000000 ∧ h.m ≤ 1000000000
  got : ∀ h ∈ E, ∃ xs, SliceN w 0 9 1 h.v h.n xs
  gnil : ∀ h ∈ E, h.g = nilV
  apart : ∀ i j (hi : i < E.length) (hj : j < E.length), i ≠ j → ∀ k, vblock E[i].v = some k → vblock E[j].v ≠ some k
  offb : ∀ h ∈ E, vblock h.v ≠ some b
  offt : ∀ h ∈ E, ∀ k, vblock h.v = some k → vblock tv ≠ some k
section
variable {w0 w w' : World} {b : Nat} {tv : Value} {E : List Held} {Bk : Nat → Prop}
theorem BookT.lt (h : BookT w0 w b tv E Bk) {k : Nat} (hk : Bk k) : k < w.heap.size := by
  rcases (h.all k).1 hk with rfl | hk | ⟨x, hx, e⟩
  · exact heap_lt h.head
  · exact (h.row.block_lt hk).2
  · obtain ⟨xs, hs⟩ := h.got x hx
    exact (hs.block_lt e).2
theorem BookT.chg (h : BookT w0 w b tv E Bk) {S : Nat → Prop} (hc : Chg S w w') (hn : ∀ k, Bk k → ¬ S k) (hS : ∀ k, S k → w0.heap.size ≤ k) : BookT w0 w' b tv E Bk :=
  { h with base := h.base.chg hc hS, head := hc.keep h.head (hn b ((h.all b).2 (.inl rfl))), row := h.row.chg hc fun k hk => hn k ((h.all k).2 (.inr (.inl hk))),
           got := fun x hx => by obtain ⟨xs, hs⟩ := h.got x hx; exact ⟨xs, hs.chg hc fun k hk => hn k ((h.all k).2 (.inr (.inr ⟨x, hx, hk⟩)))⟩ }
theorem BookT.below (h : BookT w0 w b tv E Bk) (hb : Below w.heap.size w w') : BookT w0 w' b tv E Bk := h.chg (Chg.of_below (fun _ => False) hb) (fun _ _ => id) fun _ => False.elim
theorem BookT.holds (h : BookT w0 w b tv E Bk) : Holds w b 3 103 9 1 tv E :=
  ⟨⟨_, h.head, rfl⟩, h.row, h.few, h.small, h.got, h.apart, h.offb, h.offt⟩
theorem SliceIs.toN {B : Nat} {e : TypeId} {v : Value} {n : Nat} {xs : List Value} (h : SliceIs w B e v n xs) : SliceN w 0 e 1 v n xs := by
  refine ⟨by rw [h.1, Nat.mul_one], h.2.imp id ?_⟩
  rintro ⟨g, cap, cur, e1, h2, h3, h4, h5, h6, h7⟩
  exact ⟨g, cap, cur, e1, Nat.zero_le _, h3, by rw [h4, Nat.mul_one], h5, h6, by rw [Nat.mul_one]; exact h7⟩
end
set_option maxHeartbeats 6400000 in
set_option maxRecDepth 100000 in
theorem BookT.apart_any {w0 w : World} {b : Nat} {tv : Value} {E : List Held} {Bk : Nat → Prop} (h : BookT w0 w b tv E Bk) :
    Calls Tryz.prog 8 #[bkp b] w fun e w' => e = .returned (.bool true) ∧ Chg Bk w w' := by
  have HT1 := Lib.hid (fillText_any h.base h.holds (fun k hk => h.old k ((h.all k).2 (.inr (.inr hk)))) h.gnil)
  have HH := Lib.hid h

  have HfillByte := Lib.hid (fillByte_none (HH.out.head) (show (bookC E.length tv)[1]? = some nilV from rfl))
  have HfillInt := Lib.hid (fillInt_none (HH.out.head) (show (bookC E.length tv)[2]? = some nilV from rfl))
  clear h
  go_enter Tryz.func8, Tryz.ntmps8
  go_wp2_with fail
  refine HfillByte.out.mono ?_
  rintro e w' ⟨⟨v, rfl⟩, rfl⟩
  go_wp2_with fail
  refine HfillInt.out.mono ?_
  rintro e w' ⟨⟨v, rfl⟩, rfl⟩
  go_wp2_with fail
  refine HT1.out.mono ?_
  rintro e w1 ⟨⟨v, rfl⟩, hm1, hc1⟩
  have hcB : Chg Bk w w1 := hc1.mono fun k hk _ => (HH.out.all k).2 (.inr (.inr hk))
  have hd1 : w1.heap[b]? = some (.cells (bookC E.length tv) 35 (0, 0)) := hc1.keep HH.out.head fun ⟨x, hx, e⟩ => HH.out.offb x hx e
  have h1 : Holds w1 b 3 103 9 1 tv E := ⟨⟨_, hd1, rfl⟩, HH.out.row.chg hc1 fun k hk ⟨x, hx, e⟩ => HH.out.offt x hx k e hk, HH.out.few, HH.out.small, fun x hx => ⟨_, hm1 x hx⟩, HH.out.apart, HH.out.offb, HH.out.offt⟩
  have hB1 : Base w0 w1 := HH.out.base.chg hcB HH.out.old
  have HT2 := Lib.hid (growText_any hB1 h1 (fun k hk => HH.out.old k ((HH.out.all k).2 (.inr (.inr hk)))) HH.out.gnil hm1 (fun k hk => HH.out.old k ((HH.out.all k).2 (.inr (.inl hk)))) HH.out.offbt)
  have HD1 := Lib.hid hd1
  have HC1 := Lib.hid (And.intro hcB hB1)
  have HfillPair := Lib.hid (fillPair_none HD1.out (show (bookC E.length tv)[4]? = some nilV from rfl))
  have HfillScored := Lib.hid (fillScored_none HD1.out (show (bookC E.length tv)[5]? = some nilV from rfl))
  have HfillEntry := Lib.hid (fillEntry_none HD1.out (show (bookC E.length tv)[6]? = some nilV from rfl))
  have HfillItem := Lib.hid (fillItem_none HD1.out (show (bookC E.length tv)[7]? = some nilV from rfl))
  have HfillCommand := Lib.hid (fillCommand_none HD1.out (show (bookC E.length tv)[8]? = some nilV from rfl))
  have HfillReply := Lib.hid (fillReply_none HD1.out (show (bookC E.length tv)[9]? = some nilV from rfl))
  have HgrowByte := Lib.hid (growByte_none HD1.out (show (bookC E.length tv)[1]? = some nilV from rfl))
  have HgrowInt := Lib.hid (growInt_none HD1.out (show (bookC E.length tv)[2]? = some nilV from rfl))
  clear hm1 hc1 hcB hd1 h1 hB1
  go_wp2_with fail
  refine HfillPair.out.mono ?_
  rintro e w' ⟨⟨v, rfl⟩, rfl⟩
  go_wp2_with fail
  refine HfillScored.out.mono ?_
  rintro e w' ⟨⟨v, rfl⟩, rfl⟩
  go_wp2_with fail
  refine HfillEntry.out.mono ?_
  rintro e w' ⟨⟨v, rfl⟩, rfl⟩
  go_wp2_with fail
  refine HfillItem.out.mono ?_
  rintro e w' ⟨⟨v, rfl⟩, rfl⟩
  go_wp2_with fail
  refine HfillCommand.out.mono ?_
  rintro e w' ⟨⟨v, rfl⟩, rfl⟩
  go_wp2_with fail
  refine HfillReply.out.mono ?_
  rintro e w' ⟨⟨v, rfl⟩, rfl⟩
  go_wp2_with fail
  refine HgrowByte.out.mono ?_
  rintro e w' ⟨⟨v, rfl⟩, rfl⟩
  go_wp2_with fail
  refine HgrowInt.out.mono ?_
  rintro e w' ⟨⟨v, rfl⟩, rfl⟩
  go_wp2_with fail
  refine HT2.out.mono ?_
  rintro e w2 ⟨⟨v, rfl⟩, ⟨E2, hg2, _⟩, hc2⟩
  have hcB2 : Chg Bk w1 w2 := hc2.mono fun k hk _ => hk.elim (fun hk => (HH.out.all k).2 (.inr (.inr hk))) fun hk => (HH.out.all k).2 (.inr (.inl hk))
  have hd2 : w2.heap[b]? = some (.cells (bookC E.length tv) 35 (0, 0)) := hc2.keep HD1.out fun hk => hk.elim (fun ⟨x, hx, e⟩ => HH.out.offb x hx e) HH.out.offbt
  have hB2 : Base w0 w2 := HC1.out.2.chg hcB2 HH.out.old
  have HT3 := Lib.hid (lookText_any hB2 hg2)
  have HD2 := Lib.hid hd2
  have HC2 := Lib.hid (HC1.out.1.trans hcB2 fun k hk _ => hk)
  have HgrowPair := Lib.hid (growPair_none HD2.out (show (bookC E.length tv)[4]? = some nilV from rfl))
  have HgrowScored := Lib.hid (growScored_none HD2.out (show (bookC E.length tv)[5]? = some nilV from rfl))
  have HgrowEntry := Lib.hid (growEntry_none HD2.out (show (bookC E.length tv)[6]? = some nilV from rfl))
  have HgrowItem := Lib.hid (growItem_none HD2.out (show (bookC E.length tv)[7]? = some nilV from rfl))
  have HgrowCommand := Lib.hid (growCommand_none HD2.out (show (bookC E.length tv)[8]? = some nilV from rfl))
  have HgrowReply := Lib.hid (growReply_none HD2.out (show (bookC E.length tv)[9]? = some nilV from rfl))
  have HlookByte := Lib.hid (lookByte_none HD2.out (show (bookC E.length tv)[1]? = some nilV from rfl))
  have HlookInt := Lib.hid (lookInt_none HD2.out (show (bookC E.length tv)[2]? = some nilV from rfl))
  clear hg2 hc2 hcB2 hd2 hB2
  go_wp2_with fail
  refine HgrowPair.out.mono ?_
  rintro e w' ⟨⟨v, rfl⟩, rfl⟩
  go_wp2_with fail
  refine HgrowScored.out.mono ?_
  rintro e w' ⟨⟨v, rfl⟩, rfl⟩
  go_wp2_with fail
  refine HgrowEntry.out.mono ?_
  rintro e w' ⟨⟨v, rfl⟩, rfl⟩
  go_wp2_with fail
  refine HgrowItem.out.mono ?_
  rintro e w' ⟨⟨v, rfl⟩, rfl⟩
  go_wp2_with fail
  refine HgrowCommand.out.mono ?_
  rintro e w' ⟨⟨v, rfl⟩, rfl⟩
  go_wp2_with fail
  refine HgrowReply.out.mono ?_
  rintro e w' ⟨⟨v, rfl⟩, rfl⟩
  go_wp2_with fail
  refine HlookByte.out.mono ?_
  rintro e w' ⟨rfl, rfl⟩
  go_wp2_with fail
  refine HlookInt.out.mono ?_
  rintro e w' ⟨rfl, rfl⟩
  go_wp2_with fail
  refine HT3.out.mono ?_
  rintro e w3 ⟨rfl, b3⟩
  have HC3 := Lib.hid (HC2.out.trans (Chg.of_below Bk b3) fun k hk _ => hk)
  have HD3 := Lib.hid ((Chg.of_below (fun _ => False) b3).keep HD2.out id)
  have HlookPair := Lib.hid (lookPair_none HD3.out (show (bookC E.length tv)[4]? = some nilV from rfl))
  have HlookScored := Lib.hid (lookScored_none HD3.out (show (bookC E.length tv)[5]? = some nilV from rfl))
  have HlookEntry := Lib.hid (lookEntry_none HD3.out (show (bookC E.length tv)[6]? = some nilV from rfl))
  have HlookItem := Lib.hid (lookItem_none HD3.out (show (bookC E.length tv)[7]? = some nilV from rfl))
  have HlookCommand := Lib.hid (lookCommand_none HD3.out (show (bookC E.length tv)[8]? = some nilV from rfl))
  have HlookReply := Lib.hid (lookReply_none HD3.out (show (bookC E.length tv)[9]? = some nilV from rfl))
  clear b3
  go_wp2_with fail
  refine HlookPair.out.mono ?_
  rintro e w' ⟨rfl, rfl⟩
  go_wp2_with fail
  refine HlookScored.out.mono ?_
  rintro e w' ⟨rfl, rfl⟩
  go_wp2_with fail
  refine HlookEntry.out.mono ?_
  rintro e w' ⟨rfl, rfl⟩
  go_wp2_with fail
  refine HlookItem.out.mono ?_
  rintro e w' ⟨rfl, rfl⟩
  go_wp2_with fail
  refine HlookCommand.out.mono ?_
  rintro e w' ⟨rfl, rfl⟩
  go_wp2_with fail
  refine HlookReply.out.mono ?_
  rintro e w' ⟨rfl, rfl⟩
  go_wp2_with fail
  go_ret
  exact ⟨rfl, HC3.out⟩
end Go.Proofs.YtmaemgihhipllaaGreatDoor

/- The book's marks: a pair's, an entry's. -/
namespace Go.Proofs.YtmaemgihhipllaaGreatDoor
set_option linter.unusedVariables false
set_option linter.unusedSimpArgs false
open Go.RowKit
set_option maxHeartbeats 1600000 in
set_option maxRecDepth 100000 in
theorem markPair_any {w : World} (hl : Laid w) (n : Nat) (hn : n ≤ 1000000000) : Calls Tryz.prog 69 #[.int .i64 n] w fun e w' => e = .returned (.agg #[.string (wordB n), .string ⟨#[]⟩]) ∧ Below w.heap.size w w' := by
  obtain ⟨w1, hw1⟩ : ∃ w1, w1 = w.alloc (.cells #[.string ⟨#[]⟩, .string ⟨#[]⟩] 68) := ⟨_, rfl⟩
  have hb1 : Below w.heap.size w w1 := by rw [hw1]; exact (Below.refl _ _).alloc (Nat.le_refl _) _
  have hh1 : w1.heap[w.heap.size]? = some (.cells #[.string ⟨#[]⟩, .string ⟨#[]⟩] 68 (0, 0)) := by rw [hw1]; exact heap_new _ _
  have HW := Lib.hid (word_any (hl.below hb1) n hn)
  have H1 := Lib.hid (And.intro hb1 hh1)
  have HW1 := Lib.hid hw1
  generalize wordB n = t at *
  clear hl hw1 hb1 hh1
  go_enter Tryz.func69, Tryz.ntmps69
  go_wp2_with fail
  rw [← HW1.out]
  refine HW.out.mono ?_
  rintro e w2 ⟨rfl, b2⟩
  have hh2 : w2.heap[w.heap.size]? = some (.cells #[.string ⟨#[]⟩, .string ⟨#[]⟩] 68 (0, 0)) := (b2.block _ (heap_lt H1.out.2)).trans H1.out.2
  have q0 := cell_in hh2 (i := 0) rfl
  have r0 := frozen_in hh2 0
  have q1 := cell_in (setCell_head hh2 0 (.string t)) (i := 1) rfl
  have r1 := frozen_in (setCell_head hh2 0 (.string t)) 1
  obtain ⟨w3, hw3⟩ : ∃ w3, w3 = (w2.setCell ⟨w.heap.size, 0, none⟩ (.string t)).setCell ⟨w.heap.size, 1, none⟩ (.string ⟨#[]⟩) := ⟨_, rfl⟩
  have hh3 : w3.heap[w.heap.size]? = some (.cells #[.string t, .string ⟨#[]⟩] 68 (0, 0)) := by
    rw [hw3]; exact setCell_head (setCell_head hh2 0 _) 1 _
  have hc3 : Chg (fun k => k = w.heap.size) w2 w3 := by
    rw [hw3]
    exact (Chg.setCell (fun k => k = w.heap.size) _ _ _ rfl).trans (Chg.setCell (fun k => k = w.heap.size) _ _ _ rfl) fun _ h _ => h
  have hbb := H1.out.1.trans (b2.mono H1.out.1.size)
  have HEnd := Lib.hid (show (w3.cell? ⟨w.heap.size, 0, none⟩ = some (.string t) ∧ w3.cell? ⟨w.heap.size, 1, none⟩ = some (.string ⟨#[]⟩)) ∧ Below w.heap.size w w3 from
    ⟨⟨cell_in hh3 rfl, cell_in hh3 rfl⟩, belowChg hbb hc3 hbb.size fun k hk _ => by omega⟩)
  have HW3 := Lib.hid hw3
  clear hw3 hh3 hc3 hh2 b2 hbb
  go_wp2_with fail
  rw [← HW3.out]
  exact bodyPost_ret (v := .agg #[.string t, .string ⟨#[]⟩]) (by have h := HEnd.out.1; simp [results, Tryz.results69, go_sem, h.1, h.2]) rfl ⟨rfl, HEnd.out.2⟩
set_option maxHeartbeats 1600000 in
set_option maxRecDepth 100000 in
theorem isPair_any {w : World} (hl : Laid w) (n : Nat) (hn : n ≤ 1000000000) : Calls Tryz.prog 78 #[.agg #[.string (wordB n), .string ⟨#[]⟩], .int .i64 n] w fun e w' => e = .returned (.bool true) ∧ Below w.heap.size w w' := by
  obtain ⟨w1, hw1⟩ : ∃ w1, w1 = w.alloc (.cells #[.string (wordB n), .string ⟨#[]⟩] 68) := ⟨_, rfl⟩
  have hb1 : Below w.heap.size w w1 := by rw [hw1]; exact (Below.refl _ _).alloc (Nat.le_refl _) _
  have hh1 : w1.heap[w.heap.size]? = some (.cells #[.string (wordB n), .string ⟨#[]⟩] 68 (0, 0)) := by rw [hw1]; exact heap_new _ _
  have hd1 : Below w1.heap.size w1 w1.drew := belowN (Below.refl _ _) 1
  have HW := Lib.hid (word_any ((hl.below hb1).below hd1) n hn)
  generalize wordB n = t at *
  obtain ⟨X1, f, hX1, hff, hF⟩ := classOf (fun y => y.heap[w.heap.size]? = some (.cells #[.string t, .string ⟨#[]⟩] 68 (0, 0))) (w := w1.drew) hh1
  have hf0 := fun x => cell_in (hff x) (i := 0) rfl
  have hf1 := fun x => cell_in (hff x) (i := 1) rfl
  have H0 := Lib.hid (hF w1.drew hh1)
  have HFc := Lib.hid (fun (w2 : World) (hb : Below w1.drew.heap.size w1.drew w2) => hF w2 ((hb.block _ (heap_lt hh1)).trans hh1))
  have HB := Lib.hid (And.intro hb1 hd1)
  have HW1 := Lib.hid hw1
  clear hl hw1 hb1 hh1 hd1 hff hF
  go_enter Tryz.func78, Tryz.ntmps78
  go_upto_region 1 with (fail)
  rw [← HW1.out]
  refine wp_region_text ⟨[2], [], 6⟩ (fun w' => ∃ x : X1, w' = f x) (by kernel_rfl) (by kernel_rfl) H0.out ?_
  refine wpC_seg false (H0.out) 2 0 _ _ (by rfl) (by rfl) ?_
  simp only [List.take_succ_cons, List.take_zero, List.drop_succ_cons, List.drop_zero, Bool.false_eq_true, if_false, Nat.zero_add, Nat.reduceAdd]
  repeat (go_big_quiet_step (fail))
  refine wpQuiet_nil ?_
  refine wpC_loud (by rfl) (by rfl) fun K hK => ?_
  go_wp2_with fail
  refine HW.out.mono ?_
  rintro e w2 ⟨rfl, b2⟩
  have HE := Lib.hid (show Below w.heap.size w w2 from (HB.out.1.trans (HB.out.2.mono HB.out.1.size)).trans (b2.mono (Nat.le_trans HB.out.1.size HB.out.2.size)))
  have H5 := Lib.hid (HFc.out w2 b2)
  refine hK _ _ (fun _ => H5.out) ?_
  clear hK b2
  refine wpC_seg false (H5.out) 3 3 _ _ (by rfl) (by rfl) ?_
  simp only [List.take_succ_cons, List.take_zero, List.drop_succ_cons, List.drop_zero, Bool.false_eq_true, if_false, Nat.zero_add, Nat.reduceAdd]
  repeat (go_big_quiet_step (fail))
  refine wpQuiet_nil ?_
  refine wpC_nil ?_
  clear hf0 hf1 hX1 H0 H5 HFc
  go_wp2_with fail
  go_ret
  exact ⟨rfl, HE.out⟩
set_option maxHeartbeats 1600000 in
set_option maxRecDepth 100000 in
theorem markEntry_any {w : World} (n : Nat) (hn : n ≤ 1000000000) : Calls Tryz.prog 71 #[.int .i64 n] w fun e w' => e = .returned (.agg #[.int .u64 ((n : Int) + 99000), .int .u64 0, .slice none 0 0]) ∧ Below w.heap.size w w' := by
  have e1 : IntKind.u64.wrap (n : Int) = (n : Int) := by rw [IntKind.wrap_u64]; omega
  have e2 : IntKind.u64.wrap ((n : Int) + 99000) = ((n : Int) + 99000) := by rw [IntKind.wrap_u64]; omega
  go_enter Tryz.func71, Tryz.ntmps71
  go_wp2_with fail
  have hc := heap_new w (.cells #[.int .u64 ((n : Int) + 99000), .int .u64 0, .slice none 0 0] 50)
  have c0 := cell_in hc (i := 0) rfl
  have c1 := cell_in hc (i := 1) rfl
  have c2 := cell_in hc (i := 2) rfl
  exact bodyPost_ret (v := .agg #[.int .u64 ((n : Int) + 99000), .int .u64 0, .slice none 0 0]) (by simp at c0 c1 c2; simp [results, Tryz.results71, go_sem, c0, c1, c2]) rfl ⟨rfl, (Below.refl _ _).alloc (Nat.le_refl _) _⟩
set_option maxHeartbeats 1600000 in
set_option maxRecDepth 100000 in
theorem isEntry_any {w : World} (n : Nat) (hn : n ≤ 1000000000) : Calls Tryz.prog 80 #[.agg #[.int .u64 ((n : Int) + 99000), .int .u64 0, .slice none 0 0], .int .i64 n] w fun e w' => e = .returned (.bool true) ∧ Below w.heap.size w w' := by
  have e1 : IntKind.u64.wrap (n : Int) = (n : Int) := by rw [IntKind.wrap_u64]; omega
  have e2 : IntKind.u64.wrap ((n : Int) + 99000) = ((n : Int) + 99000) := by rw [IntKind.wrap_u64]; omega
  obtain ⟨w1, hw1⟩ : ∃ w1, w1 = w.alloc (.cells #[.int .u64 ((n : Int) + 99000), .int .u64 0, .slice none 0 0] 50) := ⟨_, rfl⟩
  have hh1 : w1.heap[w.heap.size]? = some (.cells #[.int .u64 ((n : Int) + 99000), .int .u64 0, .slice none 0 0] 50 (0, 0)) := by rw [hw1]; exact heap_new _ _
  have HB := Lib.hid (show Below w.heap.size w w1 by rw [hw1]; exact (Below.refl _ _).alloc (Nat.le_refl _) _)
  have c0 := cell_in hh1 (i := 0) rfl
  have c1 := cell_in hh1 (i := 1) rfl
  have c2 := cell_in hh1 (i := 2) rfl
  have HW1 := Lib.hid hw1
  have e5 : (((n : Int) + 99000) == ((n : Int) + 99000)) = true := by simp
  clear hw1 hh1
  go_enter Tryz.func80, Tryz.ntmps80
  go_upto_region 1 with (fail)
  rw [← HW1.out]
  go_wp2_with fail
  go_ret
  exact ⟨rfl, HB.out⟩
end Go.Proofs.YtmaemgihhipllaaGreatDoor
