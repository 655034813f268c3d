/- Lemmas and walks for RespEncodes, part 1 of 2: the texts Base, Slc, Args, Loc, Str, Reg, Com, Shelf, Rsa1, Pck1, Rsp1, Rsa2, Rsa3, Rsp2, Sln, Rsp3, Txt, Rsp4, Rsm1, Rsm2, Rsr1, Rsr2, Apd. -/
import Derived.WalkKit
import Derived.Deep.Draws
import Derived.Laws.AppendOwn
import Derived.Laws.CopyRow
import Derived.IntWalk
import Derived.Laws.MakeOwn
import Derived.OpenShut
import Derived.Deep.Slices
import Derived.Deep.SlicePairs
import Derived.SliceStrings
import Derived.ChangeArms
import Derived.ChangeSlices
import Derived.Laws.Cover2
import Derived.Laws.BytesString
import Derived.Still
import Derived.Deep.Quiet
import Derived.BigQuiet
import Derived.Test.YtpldbgdhflmjhaaDoorRows
import Derived.Shelf.Strings.Builder1
import Derived.Shelf.Small.Utf8
import Derived.Shelf.Small.Strs
import Derived.Shelf.Strings.BuilderF
import Derived.Shelf.Strconv.Itoa0
import Derived.Shelf.Strconv.Itoa1
import Derived.Shelf.LaysM
import Derived.Shelf.Strconv.Itoa2
import Derived.Shelf.Strconv.Itoa3
import Derived.Shelf.Strconv.Itoa4
import Derived.Shelf.Strconv.ParseIntEmpty
import Derived.Shelf.Strconv.Clone
import Derived.Shelf.Strconv.SyntaxError
import Derived.Shelf.LaysC
import Derived.Shelf.Strconv.ToError
import Derived.Shelf.Strconv.Lower
import Derived.Shelf.Strconv.ParseUint10
import Derived.Shelf.Strconv.ParseUint10Empty
import Derived.Shelf.Strconv.ParseUint10Any
import Derived.Shelf.Strconv.ParseInt10
import Derived.Shelf.Strconv.RangeError
import Derived.Shelf.Strconv.ToErrorRange
import Derived.Shelf.Strconv.ParseUintEmpty
import Derived.Shelf.Strconv.ParseUint10b64
import Derived.Shelf.Strconv.ParseUint10At
import Derived.Shelf.Strconv.ParseInt10At64
import Derived.Shelf.Strconv.ParseInt10All
import Derived.Shelf.Strconv.ParseIntPublic10
import Derived.Shelf.Strconv.ErrVarParseInt
import Derived.Shelf.Strings.Search1
import Derived.Shelf.Strings.Prefix
import Derived.Shelf.Strings.Runes
import Derived.Shelf.Strings.IndexAny
import Derived.Shelf.Strings.AsciiSet
import Derived.Shelf.Strings.IndexAnyAll
import Derived.Shelf.Strings.FieldsFuncAny
import Derived.Shelf.Strings.FieldsFuncGrows
import Derived.Test.YtpldbgdhflmjhaaDoorProg
import Derived.Laws.RangeAny
import Derived.Lib.OthersKept
import Derived.Lib.IndexAny
import Derived.Lib.QuoteLoop
import Derived.Laws.Runes
import Derived.WalkMore
import Derived.Deep.Cut
import Derived.ScopeJumps
import Derived.Lib.ParseIntB
import Derived.Lib.ItoaNum
import Derived.Laws.RangeString
import Derived.WalkSpells
import Derived.WalkLawsBesides
import Derived.Lib.Hide
import Derived.Deep.QuietTactic
import Derived.ChangeSame
import Derived.Lib.AppendStr
namespace Go.Proofs.YtpldbgdhflmjhaaDoor
set_option linter.unusedVariables false
set_option linter.unusedSimpArgs false
open Go.RowKit
/-- The number whose bytes these are, the lowest first. -/
def lowN : List UInt8 → Nat
  | [] => 0
  | c :: l => c.toNat + 256 * lowN l
theorem lowN_lt : ∀ (l : List UInt8), lowN l < 256 ^ l.length
  | [] => by simp [lowN]
  | c :: l => by
    have := lowN_lt l
    have hc := c.toNat_lt
    simp only [lowN, List.length_cons, Nat.pow_succ]
    omega
theorem lowN_lt64 (l : List UInt8) (h : l.length ≤ 8) : lowN l < 18446744073709551616 := by
  have h1 := lowN_lt l
  have h2 : 256 ^ l.length ≤ 256 ^ 8 := Nat.pow_le_pow_right (by omega) h
  have h3 : (256 : Nat) ^ 8 = 18446744073709551616 := by decide
  omega
theorem lowN_drop (l : List UInt8) (i : Nat) (h : i < l.length) : lowN (l.drop i) = l[i].toNat + 256 * lowN (l.drop (i + 1)) := by
  rw [List.drop_eq_getElem_cons h]
  rfl
theorem u64_or_low (n c : Nat) (hc : c < 256) (h : 256 * n + c < 18446744073709551616) : bits .or .u64 ((n * 256 : Nat) : Int) (c : Int) = ((c + 256 * n : Nat) : Int) := by
  rw [u64_or_nat _ _ (by omega) (by omega)]
  have := Nat.shiftLeft_add_eq_or_of_lt (i := 8) (b := c) (by simpa using hc) n
  rw [Nat.shiftLeft_eq] at this
  simp only [Nat.reducePow] at this
  rw [← this]; congr 1; omega

/-- A number's bytes, the lowest first, in so many. -/
def leN : Nat → Nat → List UInt8
  | 0, _ => []
  | k + 1, n => UInt8.ofNat n :: leN k (n / 256)
@[simp] theorem leN_length : ∀ k n, (leN k n).length = k
  | 0, _ => rfl
  | k + 1, n => by simp [leN, leN_length k]
theorem leN_get : ∀ (k n i : Nat) (h : i < (leN k n).length), (leN k n)[i].toNat = n / 256 ^ i % 256
  | 0, n, i, h => by simp [leN] at h
  | k + 1, n, 0, h => by simp [leN, UInt8.toNat_ofNat']
  | k + 1, n, i + 1, h => by
    simp only [leN, List.getElem_cons_succ]
    rw [leN_get k (n / 256) i (by simpa [leN] using h), Nat.div_div_eq_div_mul, Nat.pow_succ, Nat.mul_comm 256]
theorem lowN_leN : ∀ k n, lowN (leN k n) = n % 256 ^ k
  | 0, n => by simp [leN, lowN, Nat.mod_one]
  | k + 1, n => by
    simp only [leN, lowN, lowN_leN k, UInt8.toNat_ofNat', Nat.reducePow]
    rw [Nat.pow_succ, Nat.mul_comm _ 256, Nat.mod_mul]
theorem leN_lowN : ∀ (l : List UInt8), leN l.length (lowN l) = l
  | [] => rfl
  | c :: l => by
    have hc := c.toNat_lt
    simp only [List.length_cons, leN, lowN]
    rw [show (c.toNat + 256 * lowN l) / 256 = lowN l by omega, leN_lowN l]
    congr 1
    apply UInt8.toNat.inj
    simp
/-- Values stored over a row, from a place on. -/
def wrs (cs : Array Value) : Nat → List Value → Array Value
  | _, [] => cs
  | o, v :: l => wrs (cs.setIfInBounds o v) (o + 1) l
@[simp] theorem wrs_size : ∀ (l : List Value) (cs : Array Value) (o : Nat), (wrs cs o l).size = cs.size
  | [], _, _ => rfl
  | v :: l, cs, o => by simp [wrs, wrs_size l]
theorem wrs_get : ∀ (l : List Value) (cs : Array Value) (o i : Nat),
    (wrs cs o l)[i]? = if o ≤ i ∧ i < o + l.length ∧ i < cs.size then l[i - o]? else cs[i]?
  | [], cs, o, i => by simp [wrs]; omega
  | v :: l, cs, o, i => by
    simp only [wrs, wrs_get l, Array.size_setIfInBounds, List.length_cons, Array.getElem?_setIfInBounds]
    by_cases h1 : o = i
    · subst h1
      by_cases h2 : o < cs.size
      · rw [if_neg (by omega), if_pos rfl, if_pos h2, if_pos (by omega)]; simp
      · rw [if_neg (by omega), if_pos rfl, if_neg h2, if_neg (by omega)]; simp [Array.getElem?_eq_none (by omega : cs.size ≤ o)]
    · by_cases h2 : o + 1 ≤ i ∧ i < o + 1 + l.length ∧ i < cs.size
      · rw [if_pos h2, if_pos (by omega)]
        rw [show i - o = (i - (o + 1)) + 1 by omega]; simp
      · rw [if_neg h2, if_neg h1, if_neg (by omega)]
theorem wrs_snoc : ∀ (l : List Value) (cs : Array Value) (o : Nat) (v : Value), wrs cs o (l ++ [v]) = (wrs cs o l).setIfInBounds (o + l.length) v
  | [], cs, o, v => rfl
  | x :: l, cs, o, v => by
    simp only [List.cons_append, wrs, wrs_snoc l, List.length_cons]
    congr 1; omega
/-- Bytes as cells. -/
abbrev u8v (c : UInt8) : Value := .int .u8 c.toNat
theorem leN_snoc : ∀ (k n : Nat), leN (k + 1) n = leN k n ++ [UInt8.ofNat (n / 256 ^ k)]
  | 0, n => by simp [leN]
  | k + 1, n => by
    show UInt8.ofNat n :: leN (k + 1) (n / 256) = (UInt8.ofNat n :: leN k (n / 256)) ++ [_]
    rw [leN_snoc k (n / 256), Nat.div_div_eq_div_mul, Nat.pow_succ, Nat.mul_comm 256]; rfl
theorem cell_in {w : World} {b : Nat} {cs : Array Value} {E : TypeId} {fz : Nat × Nat} (h : w.heap[b]? = some (.cells cs E fz)) {i : Nat} {v : Value} (hv : cs[i]? = some v) : w.cell? ⟨b, i, none⟩ = some v := by
  simp [World.cell?, h, hv]
theorem frozen_in {w : World} {b : Nat} {cs : Array Value} {E : TypeId} (h : w.heap[b]? = some (.cells cs E (0, 0))) (i : Nat) : w.frozen? ⟨b, i, none⟩ = false := by
  simp [World.frozen?, h]
theorem heap_setRow {w : World} {b : Nat} {cs : Array Value} {E : TypeId} {fz : Nat × Nat} (h : w.heap[b]? = some (.cells cs E fz)) (cs' : Array Value) : (w.setRow b cs').heap[b]? = some (.cells cs' E fz) := setRow_heap w b cs cs' E fz h
theorem setRow_eq {w : World} {b : Nat} {cs : Array Value} {E : TypeId} {fz : Nat × Nat} (h : w.heap[b]? = some (.cells cs E fz)) : w.setRow b cs = w := setRow_self w b cs E fz h
theorem setRow_setCell {w : World} {b : Nat} {cs : Array Value} {E : TypeId} {fz : Nat × Nat} (h : w.heap[b]? = some (.cells cs E fz)) (cs' : Array Value) (i : Nat) (v : Value) :
    (w.setRow b cs').setCell ⟨b, i, none⟩ v = w.setRow b (cs'.setIfInBounds i v) := by
  rw [setCell_eq_setRow _ b i cs' E fz v (heap_setRow h cs'), setRow_setRow]
theorem ret1 {a b : Value} (h : a = b) : Ending.returned a = Ending.returned b := by rw [h]
theorem belowN {B : Nat} {a w : World} (h : Below B a w) (n : Nat) : Below B a (w.drewN n) := h.trans ⟨rfl, rfl, rfl, Nat.le_refl _, fun _ _ => rfl⟩
/-- What a call did: it may have changed the blocks of S, and made new ones; all else is as it was. -/
structure Chg (S : Nat → Prop) (w w' : World) : Prop where
  os : w'.os = w.os
  tape : w'.tape = w.tape
  output : w'.output = w.output
  size : w.heap.size ≤ w'.heap.size
  block : ∀ k, k < w.heap.size → ¬ S k → w'.heap[k]? = w.heap[k]?
theorem Chg.refl (S : Nat → Prop) (w : World) : Chg S w w := ⟨rfl, rfl, rfl, Nat.le_refl _, fun _ _ _ => rfl⟩
theorem Chg.trans {S S' : Nat → Prop} {a b c : World} (h : Chg S a b) (k : Chg S' b c) (hs : ∀ i, S' i → i < a.heap.size → S i) : Chg S a c :=
  ⟨k.os.trans h.os, k.tape.trans h.tape, k.output.trans h.output, Nat.le_trans h.size k.size, fun i hi hn => (k.block i (Nat.lt_of_lt_of_le hi h.size) (fun h' => hn (hs i h' hi))).trans (h.block i hi hn)⟩
theorem Chg.mono {S S' : Nat → Prop} {a b : World} (h : Chg S a b) (hs : ∀ i, S i → i < a.heap.size → S' i) : Chg S' a b :=
  ⟨h.os, h.tape, h.output, h.size, fun i hi hn => h.block i hi (fun h' => hn (hs i h' hi))⟩
theorem Chg.drewN (S : Nat → Prop) (w : World) (n : Nat) : Chg S w (w.drewN n) := ⟨rfl, rfl, rfl, Nat.le_refl _, fun _ _ _ => rfl⟩
theorem Chg.drew (S : Nat → Prop) (w : World) : Chg S w w.drew := ⟨rfl, rfl, rfl, Nat.le_refl _, fun _ _ _ => rfl⟩
theorem Chg.alloc (S : Nat → Prop) (w : World) (o : Obj) : Chg S w (w.alloc o) := ⟨rfl, rfl, rfl, by simp, fun k hk _ => Below.heap_alloc _ _ _ hk⟩
theorem Chg.setRow (S : Nat → Prop) (w : World) (g : Nat) (cs : Array Value) (h : S g) : Chg S w (w.setRow g cs) :=
  ⟨rfl, rfl, rfl, by simp, fun k _ hn => setRow_other w g k cs (fun e => hn (e ▸ h))⟩
theorem Chg.setCell (S : Nat → Prop) (w : World) (a : Addr) (v : Value) (h : S a.block) : Chg S w (w.setCell a v) :=
  ⟨rfl, rfl, rfl, by simp [World.setCell], fun k _ hn => Below.heap_setCell _ _ _ _ (fun e => hn (e ▸ h))⟩
theorem Chg.of_below {w w' : World} (S : Nat → Prop) (h : Below w.heap.size w w') : Chg S w w' := ⟨h.os, h.tape, h.output, h.size, fun k hk _ => h.block k hk⟩
theorem Chg.of_grown {w w' : World} {row : Option Nat} (S : Nat → Prop) (h : w.grownBy w' row) (hr : ∀ k, row = some k → S k) : Chg S w w' :=
  ⟨h.os, h.tape, h.output, h.size, fun k hk hn => h.block k hk (fun e => hn (hr k e.symm))⟩
theorem belowChg {B : Nat} {S : Nat → Prop} {a w w' : World} (h : Below B a w) (hc : Chg S w w') (hB : B ≤ w.heap.size) (hs : ∀ k, S k → k < w.heap.size → B ≤ k) : Below B a w' :=
  h.trans ⟨hc.os, hc.tape, hc.output, hc.size, fun k hk => hc.block k (by omega) (fun h' => by have := hs k h' (by omega); omega)⟩
theorem Chg.keep {S : Nat → Prop} {w w' : World} (h : Chg S w w') {k : Nat} {o : Obj} (hk : w.heap[k]? = some o) (hn : ¬ S k) : w'.heap[k]? = some o := by
  rw [h.block k (Array.getElem?_eq_some_iff.1 hk).1 hn]; exact hk
theorem heap_lt {w : World} {k : Nat} {o : Obj} (hk : w.heap[k]? = some o) : k < w.heap.size := (Array.getElem?_eq_some_iff.1 hk).1
theorem heap_new (w : World) (o : Obj) : (w.alloc o).heap[w.heap.size]? = some o := heap_alloc_new w o
theorem heap_old {w : World} {k : Nat} {o : Obj} (hk : w.heap[k]? = some o) (o' : Obj) : (w.alloc o').heap[k]? = some o := by
  rw [Below.heap_alloc _ _ _ (heap_lt hk)]; exact hk
theorem wrs_list : ∀ (b' b a c : List Value), b'.length = b.length → wrs (a ++ (b ++ c)).toArray a.length b' = (a ++ (b' ++ c)).toArray
  | [], [], a, c, _ => rfl
  | x :: b', y :: b, a, c, h => by
    simp only [wrs]
    have h1 : (a ++ (y :: b ++ c)).toArray.setIfInBounds a.length x = ((a ++ [x]) ++ (b ++ c)).toArray := by simp
    rw [h1, show a.length + 1 = (a ++ [x]).length by simp, wrs_list b' b (a ++ [x]) c (by simpa using h)]
    simp
  | [], _ :: _, _, _, h => by simp at h
  | _ :: _, [], _, _, h => by simp at h
/-- A row whose cells are known, none of them frozen. (What '[]byte(s)' makes bears a mark behind its last cell.) -/
def RowAt (w : World) (g : Nat) (e : TypeId) (cur : Array Value) : Prop := ∃ fz : Nat × Nat, (∀ i, i < cur.size → ¬ (fz.1 ≤ i ∧ i < fz.2)) ∧ w.heap[g]? = some (.cells cur e fz)
theorem RowAt.of {w : World} {g : Nat} {e : TypeId} {cur : Array Value} (h : w.heap[g]? = some (.cells cur e (0, 0))) : RowAt w g e cur := ⟨(0, 0), fun i _ => by simp, h⟩
section
variable {w : World} {g : Nat} {e : TypeId} {cur : Array Value}
theorem RowAt.cell (h : RowAt w g e cur) {i : Nat} {v : Value} (hv : cur[i]? = some v) : w.cell? ⟨g, i, none⟩ = some v := by
  obtain ⟨fz, _, hh⟩ := h
  exact cell_in hh hv
theorem RowAt.free (h : RowAt w g e cur) {i : Nat} (hi : i < cur.size) : w.frozen? ⟨g, i, none⟩ = false := by
  obtain ⟨⟨lo, hi'⟩, hf, hh⟩ := h
  have := hf i hi
  simp only [World.frozen?, hh, Bool.and_eq_false_iff, decide_eq_false_iff_not]
  by_cases h1 : lo ≤ i
  · exact .inr fun h2 => this ⟨h1, h2⟩
  · exact .inl h1
theorem RowAt.lt (h : RowAt w g e cur) : g < w.heap.size := by
  obtain ⟨fz, _, hh⟩ := h
  exact heap_lt hh
theorem RowAt.keep (h : RowAt w g e cur) {S : Nat → Prop} {w' : World} (hc : Chg S w w') (hn : ¬ S g) : RowAt w' g e cur := by
  obtain ⟨fz, hf, hh⟩ := h
  exact ⟨fz, hf, hc.keep hh hn⟩
theorem RowAt.setRow (h : RowAt w g e cur) {cs : Array Value} (hs : cs.size = cur.size) : RowAt (w.setRow g cs) g e cs := by
  obtain ⟨fz, hf, hh⟩ := h
  exact ⟨fz, by rw [hs]; exact hf, heap_setRow hh cs⟩
theorem RowAt.other (h : RowAt w g e cur) {k : Nat} (cs : Array Value) (hk : g ≠ k) : RowAt (w.setRow k cs) g e cur := by
  obtain ⟨fz, hf, hh⟩ := h
  exact ⟨fz, hf, by rw [setRow_other _ _ _ _ hk]; exact hh⟩
theorem RowAt.drewN (h : RowAt w g e cur) (n : Nat) : RowAt (w.drewN n) g e cur := h
theorem RowAt.setSame (h : RowAt w g e cur) : w.setRow g cur = w := by
  obtain ⟨fz, hf, hh⟩ := h
  exact setRow_eq hh
theorem RowAt.setSet (h : RowAt w g e cur) (cs : Array Value) (i : Nat) (v : Value) : (w.setRow g cs).setCell ⟨g, i, none⟩ v = w.setRow g (cs.setIfInBounds i v) := by
  obtain ⟨fz, hf, hh⟩ := h
  exact setRow_setCell hh cs i v
theorem RowAt.setCell (h : RowAt w g e cur) (i : Nat) (v : Value) : w.setCell ⟨g, i, none⟩ v = w.setRow g (cur.setIfInBounds i v) := by
  have := h.setSet cur i v
  rwa [h.setSame] at this
theorem RowAt.old (h : RowAt w g e cur) (o : Obj) : RowAt (w.alloc o) g e cur := by
  obtain ⟨fz, hf, hh⟩ := h
  exact ⟨fz, hf, heap_old hh o⟩
end
end Go.Proofs.YtpldbgdhflmjhaaDoor

/- Slices whose row is known whole: append, copy, make. -/
namespace Go.Proofs.YtpldbgdhflmjhaaDoor
set_option linter.unusedVariables false
set_option linter.unusedSimpArgs false
open Go.RowKit

/-- What is known behind an append: the value, its row, and that only the old row may have been written. -/
def Appended (w : World) (e : TypeId) (size : Nat) (g : Option Nat) (olds news : List Value) (n : Nat) (v : Value) (w' : World) : Prop :=
  ∃ g' cap' cur', v = .slice (some ⟨g', 0, none⟩) n cap' ∧ RowAt w' g' e cur' ∧ cur'.size = cap' * size ∧ n ≤ cap' ∧ cap' ≤ maxLen ∧
    cur'.toList.take (n * size) = olds ++ news ∧ (some g' = g ∨ w.heap.size ≤ g') ∧ Chg (fun k => some k = g) w w'

section
variable {P : Program} (w : World)
theorem append_grown (g : Option Nat) (e : TypeId) (size : Nat) (z : Value) (hzs : z.cells.size = size) (olds news : List Value) (n old : Nat) (hl : (olds ++ news).length = n * size) (hm : n ≤ maxLen) :
    Appended w e size g olds news n (.slice (some ⟨w.heap.size, 0, none⟩) n (grownCap w n old e))
      (w.drew.alloc (.cells (olds.toArray ++ news.toArray ++ Builtin.zeroCells z.cells (grownCap w n old e - n)) e)) := by
  have hge := grownCap_ge w n old e
  refine ⟨w.heap.size, grownCap w n old e, _, rfl, .of (heap_alloc_new w.drew _), ?_, hge, grownCap_le_maxLen w n old e hm, ?_, .inr (Nat.le_refl _), (Chg.drew _ w).trans (Chg.alloc _ _ _) fun _ h _ => h⟩
  · have : (olds.toArray ++ news.toArray).size = n * size := by simpa using hl
    rw [Array.size_append, this, size_zeroCells, hzs, ← Nat.add_mul]; congr 1; omega
  · simp only [Array.toList_append, ← hl]
    exact List.take_left

theorem run_storeCells_row (g o : Nat) (t : TypeId) : ∀ (vs : List Value) (i : Nat) (cur : Array Value) (w : World), RowAt w g t cur → o + i + vs.length ≤ cur.size → (∀ v ∈ vs, v.oneCell' = true) →
    (storeCells ⟨g, o, none⟩ vs i).run P w = .ok () (w.setRow g (cur.toList.take (o + i) ++ vs ++ cur.toList.drop (o + i + vs.length)).toArray)
  | [], i, cur, w, hg, _, _ => by
    simp only [storeCells, List.append_nil, List.length_nil, Nat.add_zero, List.take_append_drop, Array.toArray_toList]
    rw [hg.setSame]
    rfl
  | v :: rest, i, cur, w, hg, hl, h1 => by
    have hlt : o + i < cur.size := by simp at hl; omega
    have hc := hg.cell (i := o + i) (v := cur[o + i]) (by simp [hlt])
    have hf := hg.free hlt
    have h1v := h1 v (by simp)
    have hst : (store (Addr.add ⟨g, o, none⟩ i) v).run P w = .ok () (w.setRow g (cur.setIfInBounds (o + i) v)) := by
      rw [Addr.add_lit, ← hg.setCell]
      unfold store
      cases v <;> simp_all [Sem.run, Value.oneCell']
    have ih := run_storeCells_row g o t rest (i + 1) (cur.setIfInBounds (o + i) v) (w.setRow g (cur.setIfInBounds (o + i) v)) (hg.setRow (by simp)) (by simp at hl ⊢; omega) (fun u hu => h1 u (by simp [hu]))
    simp only [storeCells, Sem.run_bind, hst, Result.andThen_ok, ih, setRow_setRow]
    congr 3
    have e := list_seg_step cur.toList (o + i) v rest (by simp at hl ⊢; omega)
    simpa [Array.toList_setIfInBounds, Nat.add_assoc] using e

/-- 'append(s, x...)', both slices; s not nil, its row known. -/
theorem run_append_row (t ty e : TypeId) (i : TypeInfo) (z : Value) (size bytes : Nat) (ht : P.underlying t = some (.slice e)) (hi : P.info? e = some i) (hz : i.zero = some z)
    (hsize : i.size = size) (hby : i.bytes = bytes) (hzs : z.cells.size = size)
    (g n cap : Nat) (cur : Array Value) (hg : RowAt w g e cur) (hcs : cur.size = cap * size) (hnc : n ≤ cap) (hcm : cap ≤ maxLen)
    (a : Addr) (m c : Nat) (news : List Value) (hl : news.length = m * size) (hnews : ∀ j u, news[j]? = some u → w.cell? (a.add j) = some u) (h1 : ∀ u ∈ news, u.oneCell' = true)
    (h63 : n + m ≤ maxLen) (hbytes : (n + m) * bytes ≤ 140737488355328) :
    ∃ v w', (Builtin.append_ #[t, t] ty #[.slice (some ⟨g, 0, none⟩) n cap, .slice (some a) m c]).run P w = .ok v w' ∧ Appended w e size (some g) (cur.toList.take (n * size)) news (n + m) v w' := by
  subst hsize
  subst hby
  have hol : (cur.toList.take (n * i.size)).length = n * i.size := by
    rw [List.length_take, Array.length_toList, hcs, Nat.min_eq_left (Nat.mul_le_mul_right _ hnc)]
  have hlen : (cur.toList.take (n * i.size) ++ news).length = (n + m) * i.size := by rw [List.length_append, hol, hl, Nat.add_mul]
  by_cases hroom : n + m ≤ cap
  · have hfit : n * i.size + news.length ≤ cur.size := by rw [hl, hcs, ← Nat.add_mul]; exact Nat.mul_le_mul_right _ hroom
    have hf := run_firstCells_some (P := P) w i.size m a m c news hl hnews
    have hst := run_storeCells_row (P := P) g (n * i.size) e news 0 cur w hg (by simpa using hfit) h1
    simp only [Nat.add_zero] at hst
    have hr : (Builtin.append_ #[t, t] ty #[.slice (some ⟨g, 0, none⟩) n cap, .slice (some a) m c]).run P w =
      .ok (.slice (some ⟨g, 0, none⟩) (n + m) cap) (w.setRow g (cur.toList.take (n * i.size) ++ news ++ cur.toList.drop (n * i.size + news.length)).toArray) := by
      simp [Builtin.append_, run_underlying ht, sizeOf, typeInfo, hi, Builtin.lenOf, hroom, hf, Addr.add_lit, hst]
    refine ⟨_, _, hr, g, cap, _, rfl, hg.setRow (by simp; omega), ?_, hroom, hcm, ?_, .inl rfl, Chg.setRow _ _ _ _ rfl⟩
    · simp only [List.size_toArray, List.length_append, List.length_take, List.length_drop, Array.length_toList]; omega
    · show (cur.toList.take (n * i.size) ++ news ++ cur.toList.drop (n * i.size + news.length)).take ((n + m) * i.size) = _
      rw [← hlen]; exact List.take_left
  · have holds : ∀ j u, (cur.toList.take (n * i.size))[j]? = some u → w.cell? ((⟨g, 0, none⟩ : Addr).add j) = some u := fun j u hu => by
      have hadd : (⟨g, 0, none⟩ : Addr).add j = ⟨g, j, none⟩ := by unfold Addr.add; split <;> simp_all
      rw [hadd]
      refine hg.cell ?_
      rw [List.getElem?_take] at hu
      split at hu
      · simpa using hu
      · cases hu
    have hr := run_append_grow (P := P) w t ty e i z ht hi hz ⟨g, 0, none⟩ n cap _ hol holds a m c news hl hnews (by omega) (by simp only [maxLen] at h63; omega) (growslice_fits (by omega) hbytes)
    exact ⟨_, _, hr, append_grown w (some g) e i.size z hzs _ _ _ _ hlen h63⟩

/-- 'append(nil, x...)'. -/
theorem run_append_row_nil (t ty e : TypeId) (i : TypeInfo) (z : Value) (size bytes : Nat) (ht : P.underlying t = some (.slice e)) (hi : P.info? e = some i) (hz : i.zero = some z)
    (hsize : i.size = size) (hby : i.bytes = bytes) (hzs : z.cells.size = size)
    (a : Addr) (m c : Nat) (news : List Value) (hm : 0 < m) (hl : news.length = m * size) (hnews : ∀ j u, news[j]? = some u → w.cell? (a.add j) = some u)
    (h63 : m ≤ maxLen) (hbytes : m * bytes ≤ 140737488355328) :
    ∃ v w', (Builtin.append_ #[t, t] ty #[.slice none 0 0, .slice (some a) m c]).run P w = .ok v w' ∧ Appended w e size none [] news m v w' := by
  subst hsize
  subst hby
  have hr := run_append_nil (P := P) w t ty e i z ht hi hz a m c news hl hnews (by omega) (by simp only [maxLen] at h63; omega) (by omega)
  have := append_grown w none e i.size z hzs [] news m 0 (by simpa using hl) h63
  simp only [List.append_nil, List.nil_append, Array.empty_append] at this
  exact ⟨_, _, hr, this⟩

/-- 'append(b, make([]T, k)...)'. -/
theorem run_append_zeros (t t2 ty e : TypeId) (kk : IntKind) (i : TypeInfo) (z : Value) (bytes : Nat) (ht : P.underlying t = some (.slice e)) (ht2 : P.underlying t2 = some (.int kk)) (hi : P.info? e = some i) (hz : i.zero = some z)
    (hsize : i.size = 1) (hby : i.bytes = bytes) (hzs : z.cells = #[z]) (hz1 : z.oneCell' = true)
    (g n cap : Nat) (cur : Array Value) (hg : RowAt w g e cur) (hcs : cur.size = cap) (hnc : n ≤ cap) (hcm : cap ≤ maxLen)
    (m : Nat) (hm0 : 0 < m) (h63 : n + m ≤ maxLen) (hbytes : (n + m) * bytes ≤ 140737488355328) :
    ∃ v w', (Builtin.append_ #[t, t2] ty #[.slice (some ⟨g, 0, none⟩) n cap, .int .i64 m]).run P w = .ok v w' ∧ Appended w e 1 (some g) (cur.toList.take n) (List.replicate m z) (n + m) v w' := by
  subst hby
  have hw : IntKind.i64.wrap (m : Int) = m := IntWalk.i64_in _ ⟨by omega, by simp only [maxLen] at h63; omega⟩
  have hneg : ¬ (m : Int) < 0 := by omega
  have h48 : ¬ (281474976710656 < (m : Int) * i.bytes) := by
    have : m * i.bytes ≤ (n + m) * i.bytes := Nat.mul_le_mul_right _ (by omega)
    have h2 : ((m * i.bytes : Nat) : Int) ≤ 140737488355328 := by omega
    rw [Int.natCast_mul] at h2
    omega
  have hzc : ∀ k, Builtin.zeroCells z.cells k = (List.replicate k z).toArray := fun k => by
    unfold Builtin.zeroCells
    rw [hzs]
    apply Array.ext
    · simp
    · intro j h1 h2; simp [Nat.mod_one]
  have hol : (cur.toList.take n).length = n := by rw [List.length_take, Array.length_toList, hcs, Nat.min_eq_left hnc]
  by_cases hroom : n + m ≤ cap
  · have hst := run_storeCells_row (P := P) g n e (List.replicate m z) 0 cur w hg (by simp; omega) (by simp; exact fun _ => hz1)
    simp only [Nat.add_zero, List.length_replicate] at hst
    refine ⟨.slice (some ⟨g, 0, none⟩) (n + m) cap, w.setRow g (cur.toList.take n ++ List.replicate m z ++ cur.toList.drop (n + m)).toArray, ?_, g, cap, (cur.toList.take n ++ List.replicate m z ++ cur.toList.drop (n + m)).toArray, rfl, hg.setRow (by simp; omega), ?_, hroom, hcm, ?_, .inl rfl, Chg.setRow _ _ _ _ rfl⟩
    · simp [Builtin.append_, run_underlying ht, run_underlying ht2, sizeOf, typeInfo, hi, asInt, asIntOf, hw, hneg, h48, hroom, hsize, zeroValue, hz, hzc, Addr.add_lit, show m ≠ 0 by omega, hst]
    · simp; omega
    · show (cur.toList.take n ++ List.replicate m z ++ cur.toList.drop (n + m)).take ((n + m) * 1) = _
      have : (cur.toList.take n ++ List.replicate m z).length = (n + m) * 1 := by rw [List.length_append, hol]; simp
      rw [← this]; exact List.take_left
  · have hgr := append_grown w (some g) e 1 z (by rw [hzs]; rfl) (cur.toList.take n) (List.replicate m z) (n + m) cap (by rw [List.length_append, hol]; simp) h63
    refine ⟨_, _, ?_, hgr⟩
    have h63' : ¬ (9223372036854775807 < ((n : Int) + (m : Int))) := by simp only [maxLen] at h63; omega
    have h48' : ¬ (281474976710656 < Builtin.nextslicecap (n + m) cap * i.bytes) := by have := growslice_fits (old := cap) (show cap < n + m by omega) hbytes; omega
    have holds : ∀ j u, (cur.toList.take n)[j]? = some u → w.drew.cell? ((⟨g, 0, none⟩ : Addr).add j) = some u := fun j u hu => by
      have hadd : (⟨g, 0, none⟩ : Addr).add j = ⟨g, j, none⟩ := by unfold Addr.add; split <;> simp_all
      rw [hadd]
      refine (show RowAt w.drew g e cur from hg).cell ?_
      rw [List.getElem?_take] at hu
      split at hu
      · simpa using hu
      · cases hu
    have hfo := run_firstCells_some (P := P) w.drew 1 n ⟨g, 0, none⟩ n cap (cur.toList.take n) (by rw [hol]; omega) holds
    simp [Builtin.append_, run_underlying ht, run_underlying ht2, sizeOf, typeInfo, hi, asInt, asIntOf, hw, hneg, h48, hroom, hsize, zeroValue, hz, hzc, show m ≠ 0 by omega, h63', h48', Question.forced, newRow, grownCap, hfo]

/-- The row behind a copy. -/
def spliced (cur : Array Value) (o : Nat) (news : List Value) : Array Value := (cur.toList.take o ++ news ++ cur.toList.drop (o + news.length)).toArray
theorem spliced_size (cur : Array Value) (o : Nat) (news : List Value) (h : o + news.length ≤ cur.size) : (spliced cur o news).size = cur.size := by
  simp [spliced]; omega
theorem run_copy_row (t t2 ty e : TypeId) (i : TypeInfo) (ht : P.underlying t = some (.slice e)) (hi : P.info? e = some i) (hsize : i.size = 1)
    (g o dl dc : Nat) (cur : Array Value) (hg : RowAt w g e cur) (a : Addr) (sl sc n : Nat) (hn : n = min sl dl) (ho : o + n ≤ cur.size)
    (news : List Value) (hl : news.length = n) (hnews : ∀ j u, news[j]? = some u → w.cell? (a.add j) = some u) (h1 : ∀ u ∈ news, u.oneCell' = true) :
    (Builtin.copy_ #[t, t2] ty #[.slice (some ⟨g, o, none⟩) dl dc, .slice (some a) sl sc]).run P w = .ok (.int .i64 (n : Nat)) (w.setRow g (spliced cur o news)) := by
  have hf := run_firstCells_some (P := P) w 1 n a sl sc news (by omega) hnews
  have hst := run_storeCells_row (P := P) g o e news 0 cur w hg (by omega) h1
  simp only [Nat.add_zero] at hst
  have hmin : Nat.min sl dl = n := hn.symm
  simp [Builtin.copy_, run_underlying ht, sizeOf, typeInfo, hi, hsize, Builtin.lenOf, hmin, hf, hst, goInt, spliced]

theorem run_make_row (t e : TypeId) (i : TypeInfo) (z : Value) (bytes : Nat) (ht : P.underlying t = some (.slice e)) (hi : P.info? e = some i) (hz : i.zero = some z)
    (hsize : i.size = 1) (hby : i.bytes = bytes) (hzs : z.cells = #[z]) (n : Nat) (h63 : n ≤ maxLen) (hbytes : n * bytes ≤ 140737488355328) :
    (Instr.makeSlice t (.int .i64 n) (.int .i64 n)).run P w = .ok (.slice (some ⟨w.heap.size, 0, none⟩) n n) (w.alloc (.cells (List.replicate n z).toArray e)) := by
  subst hby
  have hb : (i.bytes : Int) * (n : Int) ≤ 281474976710656 := by
    have h2 : ((n * i.bytes : Nat) : Int) ≤ 140737488355328 := by omega
    rw [Int.natCast_mul, Int.mul_comm] at h2
    omega
  have h := run_make (P := P) w t e i z ht hi hz .i64 .i64 n n (by omega) (by omega) hb (by simp only [maxLen] at h63; omega)
  rw [h]
  simp only [Int.toNat_natCast, hsize, Nat.mul_one]
  congr 3
  unfold madeCells
  rw [hzs]
  apply Array.ext
  · simp
  · intro j h1 h2; simp [Nat.mod_one]

theorem exec_copy {w w' : World} {o : Oper} {ρ : Operand → Value} {s x : Operand} {t u : TypeId} {v : Value} (ho : o.op = .call { callee := .builtin .copy, args := #[s, x], argTypes := #[t, u] })
    (h : (Builtin.copy_ #[t, u] o.type #[ρ s, ρ x]).run P w = .ok v w') : (execOp ρ o).run P w = .ok (.value v) w' := by
  unfold execOp
  simp only [ho, resolve, invoke, builtin, Sem.run_bind, Sem.run_pure, Result.andThen_ok, List.map_toArray, List.map_cons, List.map_nil, h]
theorem exec_append {w w' : World} {o : Oper} {ρ : Operand → Value} {s x : Operand} {t u : TypeId} {v : Value} (ho : o.op = .call { callee := .builtin .append, args := #[s, x], argTypes := #[t, u] })
    (h : (Builtin.append_ #[t, u] o.type #[ρ s, ρ x]).run P w = .ok v w') : (execOp ρ o).run P w = .ok (.value v) w' := by
  unfold execOp
  simp only [ho, resolve, invoke, builtin, Sem.run_bind, Sem.run_pure, Result.andThen_ok, List.map_toArray, List.map_cons, List.map_nil, h]

theorem row_splice {cur : Array Value} {a b c news : List Value} (h : cur.toList = a ++ (b ++ c)) (hl : news.length = b.length) {o : Nat} (ho : o = a.length) : (spliced cur o news).toList = a ++ (news ++ c) := by
  subst ho
  show cur.toList.take a.length ++ news ++ cur.toList.drop (a.length + news.length) = _
  rw [h, hl, List.take_left, ← List.drop_drop, List.drop_left, List.drop_left, List.append_assoc]
theorem row_wrs {cur : Array Value} {a b c b' : List Value} (h : cur.toList = a ++ (b ++ c)) (hl : b'.length = b.length) {o : Nat} (ho : o = a.length) : (wrs cur o b').toList = a ++ (b' ++ c) := by
  subst ho
  have : cur = (a ++ (b ++ c)).toArray := by rw [← h]
  rw [this, wrs_list b' b a c hl]
theorem row_cells {w : World} {g : Nat} {cur : Array Value} {e : TypeId} (hg : RowAt w g e cur) {a b c : List Value} (h : cur.toList = a ++ (b ++ c)) {o : Nat} (ho : o = a.length) :
    ∀ j u, b[j]? = some u → w.cell? ((⟨g, o, none⟩ : Addr).add j) = some u := by
  subst ho
  intro j u hu
  rw [Addr.add_lit]
  refine hg.cell ?_
  rw [← Array.getElem?_toList, h, List.getElem?_append_right (by omega), show a.length + j - a.length = j by omega, List.getElem?_append_left (List.getElem?_eq_some_iff.1 hu).1]
  exact hu
theorem row_take {cur : Array Value} {n : Nat} {bs : List Value} (h : cur.toList.take n = bs) : ∃ R, cur.toList = bs ++ R :=
  ⟨cur.toList.drop n, by rw [← h, List.take_append_drop]⟩
end
end Go.Proofs.YtpldbgdhflmjhaaDoor

namespace Go.Proofs.YtpldbgdhflmjhaaDoor
set_option linter.unusedVariables false
set_option linter.unusedSimpArgs false
open Go.RowKit Go.ChangeShapes Go.WideShapes Go.Deep
section
variable {H : Type} {enc : TypeId × Value → H} {P : Program} {w : World} {base : Nat} {spare : Nat → Bool} {held : Bool} {fuel : Nat} {t e : TypeId}
theorem float_cell {k : FloatKind} {v : Value} {x : DataW H × List MemPlace} (ht : P.underlying t = some (.float k)) (h : DataW.trod enc P w base spare held fuel t [v] = some x) : ∃ b, v = .float k b ∧ x.2 = [] := by
  cases fuel with
  | zero => simp [DataW.trod] at h
  | succ n =>
    unfold DataW.trod at h
    rw [ht] at h
    split at h <;> simp_all
    rw [← h.2]
theorem int_cell {k : IntKind} {v : Value} {x : DataW H × List MemPlace} (ht : P.underlying t = some (.int k)) (h : DataW.trod enc P w base spare held fuel t [v] = some x) : ∃ n, v = .int k n ∧ x.2 = [] ∧ (Lit.int k n).wf = true := by
  obtain ⟨n, h1, h2, h3⟩ := DataW.trod_int ht h
  exact ⟨n, by simpa using h1, by rw [h2], h3⟩
/-- A slice that came in: its cells are there. -/
def ArgRow (w : World) (a : Option Addr) (len cap : Nat) (f : Nat → Value) : Prop :=
  len ≤ cap ∧ (len = 0 ∨ ∃ b o, a = some ⟨b, o, none⟩ ∧ ∀ i, i < len → w.cell? ⟨b, o + i, none⟩ = some (f i))
theorem argRow_of {x : Addr} {len cap : Nat} {f : Nat → Value} (hl : len ≤ cap) (h : ∀ i, i < len → w.cell? (x.add i) = some (f i)) : ArgRow w (some x) len cap f := by
  refine ⟨hl, ?_⟩
  by_cases h0 : len = 0
  · exact .inl h0
  · right
    have hx : x.spot = none := by
      have := h 0 (by omega)
      simp only [Addr.add, if_pos] at this
      unfold World.cell? at this
      split at this
      · split at this
        · cases this
        · rename_i hs; simpa using hs
      · cases this
    obtain ⟨b, o, s⟩ := x
    simp only at hx
    subst hx
    refine ⟨b, o, rfl, fun i hi => ?_⟩
    have := h i hi
    rwa [add_plain] at this
theorem ints_arg {k : IntKind} {a : Option Addr} {len cap : Nat} {d : DataW H} {ps : List MemPlace} (ht : P.underlying t = some (.slice e)) (he : P.underlying e = some (.int k)) (hc : P.cellsOf e = 1)
    (h : DataW.Trod enc P w base spare held t (.slice a len cap) d ps) :
    ∃ zs : List Int, zs.length = len ∧ ArgRow w a len cap (fun i => .int k (zs.getD i 0)) ∧ ∀ n ∈ zs, (Lit.int k n).wf = true := by
  obtain ⟨fuel, hf⟩ := h
  rcases open_ints ht he hc hf with ⟨hcs, _⟩ | ⟨x, l, c, zs, hcs, _, hl, hm, hz, _, hcell, hwz⟩
  · simp [Value.cells] at hcs
    obtain ⟨rfl, rfl, rfl⟩ := hcs
    exact ⟨[], rfl, ⟨Nat.le_refl _, .inl rfl⟩, by simp⟩
  · simp [Value.cells] at hcs
    obtain ⟨rfl, rfl, rfl⟩ := hcs
    have hle : len ≤ zs.length := by rw [hz]; split <;> omega
    refine ⟨zs.take len, by simp; omega, argRow_of hl fun i hi => ?_, fun n hn => hwz n (List.mem_of_mem_take hn)⟩
    rw [hcell i (by omega)]
    simp [List.getD, List.getElem?_take, hi]
theorem strs_arg {a : Option Addr} {len cap : Nat} {d : DataW H} {ps : List MemPlace} (ht : P.underlying t = some (.slice e)) (he : P.underlying e = some .string) (hc : P.cellsOf e = 1)
    (h : DataW.Trod enc P w base spare held t (.slice a len cap) d ps) :
    ∃ zs : List ByteArray, zs.length = len ∧ ArgRow w a len cap (fun i => .string (zs.getD i ByteArray.empty)) := by
  obtain ⟨fuel, hf⟩ := h
  rcases open_slice1 ht hc hf with ⟨hcs, _⟩ | ⟨x, l, c, m, n, V, D, Pl, hcs, _, hl, hm, hmm, _, hV⟩
  · simp [Value.cells] at hcs
    obtain ⟨rfl, rfl, rfl⟩ := hcs
    exact ⟨[], rfl, ⟨Nat.le_refl _, .inl rfl⟩⟩
  · simp [Value.cells] at hcs
    obtain ⟨rfl, rfl, rfl⟩ := hcs
    have hle : len ≤ m := by rw [hmm]; split <;> omega
    have each : ∀ i, i < m → ∃ s : ByteArray, V i = .string s := fun i hi => by
      obtain ⟨s, hs, _⟩ := DataW.trod_string he (hV i hi).2
      exact ⟨s, by simpa using hs⟩
    obtain ⟨S, hS⟩ := choose_lt each
    refine ⟨(List.range len).map S, by simp, argRow_of hl fun i hi => ?_⟩
    rw [(hV i (by omega)).1, hS i (by omega)]
    simp [List.getD, hi]
/-- A slice of structs of two one-cell numbers that came in. -/
def RecRow (w : World) (a : Option Addr) (len cap : Nat) (f g : Nat → Value) : Prop :=
  len ≤ cap ∧ (len = 0 ∨ ∃ b o, a = some ⟨b, o, none⟩ ∧ ∀ i, i < len → w.cell? ⟨b, o + i * 2, none⟩ = some (f i) ∧ w.cell? ⟨b, o + i * 2 + 1, none⟩ = some (g i))
theorem recs_arg {f0 f1 : Field} {k0 k1 : IntKind} {a : Option Addr} {len cap : Nat} {d : DataW H} {ps : List MemPlace} (ht : P.underlying t = some (.slice e)) (he : P.underlying e = some (.struct #[f0, f1]))
    (ce : P.cellsOf e = 2) (o0 : f0.offset = 0) (o1 : f1.offset = 1) (c0 : P.cellsOf f0.type = 1) (c1 : P.cellsOf f1.type = 1) (u0 : P.underlying f0.type = some (.int k0)) (u1 : P.underlying f1.type = some (.int k1))
    (h : DataW.Trod enc P w base spare held t (.slice a len cap) d ps) :
    ∃ zs : List (Int × Int), zs.length = len ∧ RecRow w a len cap (fun i => .int k0 (zs.getD i (0, 0)).1) (fun i => .int k1 (zs.getD i (0, 0)).2) ∧ ∀ n ∈ zs, (Lit.int k0 n.1).wf = true ∧ (Lit.int k1 n.2).wf = true := by
  obtain ⟨fuel, hf⟩ := h
  rcases open_slice_pairs ht he ce o0 o1 c0 c1 hf with ⟨hcs, _⟩ | ⟨x, l, c, m, n, V0, V1, D0, D1, P0, P1, hcs, _, hl, hm, hmm, _, hV⟩
  · simp [Value.cells] at hcs
    obtain ⟨rfl, rfl, rfl⟩ := hcs
    exact ⟨[], rfl, ⟨Nat.le_refl _, .inl rfl⟩, by simp⟩
  · simp [Value.cells] at hcs
    obtain ⟨rfl, rfl, rfl⟩ := hcs
    have hle : len ≤ m := by rw [hmm]; split <;> omega
    have each : ∀ i, i < m → ∃ s : Int × Int, V0 i = .int k0 s.1 ∧ V1 i = .int k1 s.2 ∧ (Lit.int k0 s.1).wf = true ∧ (Lit.int k1 s.2).wf = true := fun i hi => by
      obtain ⟨_, _, g0, g1⟩ := hV i hi
      obtain ⟨n0, e0, _, w0⟩ := int_cell u0 g0
      obtain ⟨n1, e1, _, w1⟩ := int_cell u1 g1
      exact ⟨(n0, n1), e0, e1, w0, w1⟩
    obtain ⟨S, hS⟩ := choose_lt each
    refine ⟨(List.range len).map S, by simp, ⟨hl, ?_⟩, fun n hn => ?_⟩
    · by_cases h0 : len = 0
      · exact .inl h0
      · right
        obtain ⟨_, b, o, hx, hcells⟩ := argRow_of (w := w) (x := x) (len := 1) (cap := 1) (f := fun _ => V0 0) (Nat.le_refl _) (fun i hi => by
          have : i = 0 := by omega
          subst this
          simpa using (hV 0 (by omega)).1) |>.imp id (fun h => h.resolve_left (by omega))
        cases hx
        refine ⟨b, o, rfl, fun i hi => ?_⟩
        obtain ⟨g0, g1, _⟩ := hV i (by omega)
        rw [add_plain] at g0 g1
        rw [g0, show o + i * 2 + 1 = o + (i * 2 + 1) by omega, g1, (hS i (by omega)).1, (hS i (by omega)).2.1]
        simp [List.getD, hi]
    · obtain ⟨i, hi, rfl⟩ := List.mem_map.1 hn
      have := List.mem_range.1 hi
      exact (hS i (by omega)).2.2
end
end Go.Proofs.YtpldbgdhflmjhaaDoor

/- Slices that a call has made itself, of elements of one cell. -/
namespace Go.Proofs.YtpldbgdhflmjhaaDoor
set_option linter.unusedVariables false
set_option linter.unusedSimpArgs false
open Go.RowKit
/-- The slice value v holds n elements xs; its row lies in a block from B on. -/
def SliceIs (w : World) (B : Nat) (e : TypeId) (v : Value) (n : Nat) (xs : List Value) : Prop :=
  xs.length = n ∧ ((v = .slice none 0 0 ∧ n = 0) ∨ ∃ g cap cur, v = .slice (some ⟨g, 0, none⟩) n cap ∧ B ≤ g ∧ RowAt w g e cur ∧ cur.size = cap ∧ n ≤ cap ∧ cap ≤ maxLen ∧ cur.toList.take n = xs)
theorem SliceIs.nil (w : World) (B : Nat) (e : TypeId) : SliceIs w B e (.slice none 0 0) 0 [] := ⟨rfl, .inl ⟨rfl, rfl⟩⟩
section
variable {w : World} {B : Nat} {e : TypeId} {v : Value} {n : Nat} {xs : List Value}
theorem SliceIs.below (h : SliceIs w B e v n xs) {w' : World} (hb : Below w.heap.size w w') : SliceIs w' B e v n xs := by
  refine ⟨h.1, h.2.imp id ?_⟩
  rintro ⟨g, cap, cur, h1, h2, h3, h4⟩
  exact ⟨g, cap, cur, h1, h2, h3.keep (Chg.of_below (fun _ => False) hb) id, h4⟩
theorem SliceIs.arg (h : SliceIs w B e v n xs) : ∃ a cap, v = .slice a n cap ∧ ArgRow w a n cap (fun i => xs.getD i undef) := by
  rcases h.2 with ⟨rfl, rfl⟩ | ⟨g, cap, cur, rfl, _, h3, h4, h5, _, h7⟩
  · exact ⟨none, 0, rfl, Nat.le_refl _, .inl rfl⟩
  · refine ⟨some ⟨g, 0, none⟩, cap, rfl, h5, .inr ⟨g, 0, rfl, fun i hi => ?_⟩⟩
    have hx : xs[i]? = cur[i]? := by
      rw [← h7, List.getElem?_take_of_lt hi, Array.getElem?_toList]
    have hlt : i < xs.length := by rw [h.1]; exact hi
    rw [Nat.zero_add, h3.cell (v := xs.getD i undef) (by rw [← hx]; simp [List.getD, hlt])]
theorem run_append_local {P : Program} {t ty : TypeId} {i : TypeInfo} {z : Value} {bytes : Nat} (ht : P.underlying t = some (.slice e)) (hi : P.info? e = some i) (hz : i.zero = some z)
    (hsize : i.size = 1) (hby : i.bytes = bytes) (hzs : z.cells.size = 1) (h : SliceIs w B e v n xs) (hB : B ≤ w.heap.size)
    (a : Addr) (m c : Nat) (news : List Value) (hm : 0 < m) (hl : news.length = m) (hnews : ∀ j u, news[j]? = some u → w.cell? (a.add j) = some u) (h1 : ∀ u ∈ news, u.oneCell' = true)
    (h63 : n + m ≤ maxLen) (hbytes : (n + m) * bytes ≤ 140737488355328) :
    ∃ v' w', (Builtin.append_ #[t, t] ty #[v, .slice (some a) m c]).run P w = .ok v' w' ∧ SliceIs w' B e v' (n + m) (xs ++ news) ∧ Below B w w' := by
  have fin : ∀ (g : Option Nat) (olds : List Value) v' w', (∀ k, g = some k → B ≤ k) → olds = xs → Appended w e 1 g olds news (n + m) v' w' → SliceIs w' B e v' (n + m) (xs ++ news) ∧ Below B w w' := by
    rintro g olds v' w' hg rfl ⟨g', cap', cur', rfl, q1, q2, q3, q4, q5, q6, q7⟩
    refine ⟨⟨by rw [List.length_append, h.1, hl], .inr ⟨g', cap', cur', rfl, ?_, q1, by omega, q3, q4, by rw [← q5, Nat.mul_one]⟩⟩, belowChg (Below.refl _ _) q7 hB fun k hk _ => hg k hk.symm⟩
    rcases q6 with q6 | q6
    · exact hg g' q6.symm
    · omega
  rcases h.2 with ⟨rfl, rfl⟩ | ⟨g, cap, cur, rfl, h2, h3, h4, h5, h6, h7⟩
  · obtain ⟨v', w', hr, hp⟩ := run_append_row_nil (P := P) w t ty e i z 1 bytes ht hi hz hsize hby hzs a m c news hm (by omega) hnews (by omega) (by simpa using hbytes)
    have hx : [] = xs := (List.eq_nil_of_length_eq_zero h.1).symm
    refine ⟨v', w', hr, fin none [] v' w' (by simp) hx ?_⟩
    rw [Nat.zero_add]; exact hp
  · obtain ⟨v', w', hr, hp⟩ := run_append_row (P := P) w t ty e i z 1 bytes ht hi hz hsize hby hzs g n cap cur h3 (by omega) h5 h6 a m c news (by omega) hnews h1 h63 hbytes
    exact ⟨v', w', hr, fin (some g) _ v' w' (fun k hk => by cases hk; exact h2) (by rw [Nat.mul_one]; exact h7) hp⟩
/-- One element more, which the call has laid in a block of its own. -/
theorem run_append_one {P : Program} {t ty : TypeId} {i : TypeInfo} {z : Value} {bytes : Nat} (ht : P.underlying t = some (.slice e)) (hi : P.info? e = some i) (hz : i.zero = some z)
    (hsize : i.size = 1) (hby : i.bytes = bytes) (hzs : z.cells.size = 1) (h : SliceIs w B e v n xs) (hB : B ≤ w.heap.size) (u : Value) (hu : u.oneCell' = true)
    (h63 : n + 1 ≤ maxLen) (hbytes : (n + 1) * bytes ≤ 140737488355328) :
    ∃ v' w', (Builtin.append_ #[t, t] ty #[v, .slice (some ⟨w.heap.size, 0, none⟩) 1 1]).run P (w.alloc (.cells #[u] e)) = .ok v' w' ∧ SliceIs w' B e v' (n + 1) (xs ++ [u]) ∧ Below B w w' := by
  have hb : Below w.heap.size w (w.alloc (.cells #[u] e)) := (Below.refl _ _).alloc (Nat.le_refl _) _
  obtain ⟨v', w', hr, h2, h3⟩ := run_append_local (P := P) (ty := ty) ht hi hz hsize hby hzs (h.below hb) (by simp; omega) ⟨w.heap.size, 0, none⟩ 1 1 [u] (by omega) rfl (fun j x hx => by
    have hj : j = 0 := by have := (List.getElem?_eq_some_iff.1 hx).1; simpa using this
    subst hj
    rw [Addr.add_lit]
    refine cell_in (heap_new w _) ?_
    simpa using hx) (by simpa using hu) h63 hbytes
  exact ⟨v', w', hr, h2, (hb.mono hB).trans h3⟩
end
/-- An append in a region that does not draw, its run known. -/
theorem wpList_append_run {P : Program} {ops : Array Oper} {Q : Exit → Act → World → Prop} {rest : List Oper} {o : Oper} {a : Act} {w w' : World} {s x : Operand} {t u : TypeId} {v : Value} (hg : o.guard = none)
    (ho : o.op = .call { callee := .builtin .append, args := #[s, x], argTypes := #[t, u] }) (hr : (Builtin.append_ #[t, u] o.type #[a.eval s, a.eval x]).run P w = .ok v w')
    (h : wpList P ops Q rest (a.put o.dst v) w') : wpList P ops Q (o :: rest) a w :=
  wpList_plain hg fun K hK => by unfold Oper.wp; rw [exec_append ho hr]; exact hK _ _ h
end Go.Proofs.YtpldbgdhflmjhaaDoor

/- Strings of bytes. -/
namespace Go.Proofs.YtpldbgdhflmjhaaDoor
set_option linter.unusedVariables false
set_option linter.unusedSimpArgs false
open Go.RowKit
/-- The string of these bytes. -/
def strOf (bs : List UInt8) : ByteArray := ⟨bs.toArray⟩
@[simp] theorem strOf_size (bs : List UInt8) : (strOf bs).size = bs.length := by simp [strOf, ByteArray.size]
@[simp] theorem strOf_data (bs : List UInt8) : (strOf bs).data.toList = bs := by simp [strOf]
theorem strOf_inj {a b : List UInt8} (h : strOf a = strOf b) : a = b := by
  have := congrArg (fun s : ByteArray => s.data.toList) h
  simpa using this
theorem strOf_toList (s : ByteArray) : strOf s.data.toList = s := by cases s; simp [strOf]
theorem fold_push (bs : List UInt8) : ∀ s : ByteArray, (bs.map fun c => (c.toNat : Int)).foldl (fun r n => r.push (UInt8.ofNat n.toNat)) s = ⟨s.data ++ bs.toArray⟩ := by
  induction bs with
  | nil => intro s; simp
  | cons c bs ih =>
    intro s
    simp only [List.map_cons, List.foldl_cons, ih]
    simp [ByteArray.push]
theorem run_string_row {P : Program} (w : World) (src dst e : TypeId) (hs : P.underlying src = some (.slice e)) (he : P.underlying e = some (.int .u8)) (hd : P.underlying dst = some .string)
    (b o n cap : Nat) (bs : List UInt8) (hn : bs.length = n) (hc : ∀ i (h : i < bs.length), w.cell? ⟨b, o + i, none⟩ = some (.int .u8 bs[i].toNat)) :
    (convert src dst (.slice (some ⟨b, o, none⟩) n cap)).run P w = .ok (.string (strOf bs)) w := by
  subst hn
  rw [run_convert_bytes_string w src dst e _ _ _ hs he hd, run_bytesToString (ns := bs.map fun c => (c.toNat : Int))]
  · rw [fold_push]; simp [strOf, ByteArray.empty, ByteArray.emptyWithCapacity]; rfl
  · have := run_loadCells_list (P := P) w ⟨b, o, none⟩ (bs.map u8v) (fun j v hv => by
      rw [List.getElem?_map] at hv
      cases hb : bs[j]? with
      | none => rw [hb] at hv; cases hv
      | some c =>
        rw [hb] at hv
        obtain ⟨hj, hcj⟩ := List.getElem?_eq_some_iff.1 hb
        rw [Addr.add_lit, hc j hj, hcj]
        simpa using hv)
    rw [List.length_map] at this
    rw [this, List.map_map]; rfl
theorem run_string_nil {P : Program} (w : World) (src dst e : TypeId) (hs : P.underlying src = some (.slice e)) (he : P.underlying e = some (.int .u8)) (hd : P.underlying dst = some .string) (n c : Nat) :
    (convert src dst (.slice none n c)).run P w = .ok (.string (strOf [])) w := by
  rw [run_convert_bytes_string w src dst e _ _ _ hs he hd]
  simp [Conv.bytesToString]
  rfl
/-- '[]byte(s)': a new row, its capacity open. -/
theorem run_bytes_string {P : Program} (w : World) (src dst e : TypeId) (hs : P.underlying src = some .string) (hd : P.underlying dst = some (.slice e)) (he : P.underlying e = some (.int .u8)) (s : ByteArray) (hsz : s.size ≤ 140737488351232) :
    ∃ cap cur w', (convert src dst (.string s)).run P w = .ok (.slice (some ⟨w.heap.size, 0, none⟩) s.size cap) w' ∧ RowAt w' w.heap.size e cur ∧ cur.size = cap ∧ s.size ≤ cap ∧ cap ≤ maxLen ∧
      cur.toList.take s.size = s.data.toList.map u8v ∧ Chg (fun _ => False) w w' := by
  obtain ⟨cap, hcap⟩ : ∃ cap, cap = (Question.appendCap s.size 0 e).cut (w.tape w.drawn (.appendCap s.size 0 e)) := ⟨_, rfl⟩
  have hge : s.size ≤ cap := by rw [hcap]; simp [Question.cut]
  have hle : cap ≤ maxLen := by rw [hcap]; exact grownCap_le_maxLen w s.size 0 e (by unfold maxLen; omega)
  obtain ⟨cur, hcur⟩ : ∃ cur, cur = s.data.map (fun b => Value.int .u8 b.toNat) ++ Array.replicate (cap - s.size) (Value.int .u8 0) := ⟨_, rfl⟩
  have hsize : cur.size = cap := by
    rw [hcur, Array.size_append, Array.size_map, Array.size_replicate]
    show s.size + (cap - s.size) = cap
    omega
  refine ⟨cap, cur, (w.drew.alloc (.cells cur e)).freeze ⟨w.heap.size, cap, none⟩ 1, ?_, ?_, hsize, hge, hle, ?_, ?_⟩
  · simp [convert, run_underlying hs, run_underlying hd, run_underlying he, Conv.stringToBytes, Question.forced, newRow, markStringish]
    rw [← hcap, ← hcur]
    have hsh : (w.drew.alloc (.cells cur e)).shape? w.heap.size = some (e, cap) := by
      simp only [World.shape?]
      rw [show w.heap.size = w.drew.heap.size from rfl, heap_new]
      simp [hsize]
    rw [hsh]
    simp [freeze, Sem.run]
  · have hh : ((w.drew.alloc (.cells cur e)).freeze ⟨w.heap.size, cap, none⟩ 1).heap[w.heap.size]? = some (.cells cur e (cap, cap + 1)) := by
      unfold World.freeze
      simp only [Nat.one_ne_zero, if_false, Array.getElem?_modify]
      rw [show w.heap.size = w.drew.heap.size from rfl, heap_new]
      simp
    exact ⟨_, fun i hi => by simp; omega, hh⟩
  · rw [hcur, Array.toList_append, Array.toList_map, List.take_left' (by rw [List.length_map, Array.length_toList]; rfl)]
  · refine ⟨rfl, rfl, rfl, ?_, fun k hk _ => ?_⟩
    · simp [World.freeze]
    · unfold World.freeze
      simp only [Nat.one_ne_zero, if_false, Array.getElem?_modify]
      rw [if_neg (by omega)]
      exact Below.heap_alloc w.drew _ k hk
end Go.Proofs.YtpldbgdhflmjhaaDoor

/- Regions that draw their order: one walk in the text's order serves every order, where the operations that write (and calls) stand in one line, and the others read only what stays. -/
namespace Go.Proofs.YtpldbgdhflmjhaaDoor
set_option linter.unusedVariables false
set_option linter.unusedSimpArgs false

/-- Operation i waits for operation k, by whatever road. -/
inductive Dep (md : Region.Mode) (ops : Array Oper) (k : Nat) : Nat → Prop
  | direct {i : Nat} {o : Oper} {e : Edge} (ho : ops[i]? = some o) (he : e ∈ o.after) (hb : Region.binds md e = true) (hk : e.on = k) : Dep md ops k i
  | trans {i : Nat} {o : Oper} {e : Edge} (ho : ops[i]? = some o) (he : e ∈ o.after) (hb : Region.binds md e = true) (hd : Dep md ops k e.on) : Dep md ops k i

def depB (md : Region.Mode) (ops : Array Oper) (k : Nat) : Nat → Nat → Bool
  | 0, _ => false
  | fuel + 1, i => match ops[i]? with
    | some o => o.after.any fun e => Region.binds md e && (e.on == k || (decide (k < e.on) && depB md ops k fuel e.on))
    | none => false
theorem depB_spec {md : Region.Mode} {ops : Array Oper} {k : Nat} : ∀ (fuel i : Nat), depB md ops k fuel i = true → Dep md ops k i
  | 0, i, h => by simp [depB] at h
  | fuel + 1, i, h => by
    unfold depB at h
    split at h
    · rename_i o ho
      obtain ⟨e, he, hb⟩ := Array.any_eq_true'.1 h
      simp only [Bool.and_eq_true, Bool.or_eq_true, beq_iff_eq] at hb
      obtain ⟨hb1, hb2⟩ := hb
      rcases hb2 with hb2 | hb2
      · exact .direct ho he hb1 hb2
      · exact .trans ho he hb1 (depB_spec fuel _ hb2.2)
    · cases h

section
variable {P : Program} {ops : Array Oper} {md : Region.Mode}

theorem apart_symm {x y : Oper} (h : x.apart ops y = true) : y.apart ops x = true := by
  obtain ⟨h1, h2, h3⟩ := Oper.apart_spec h
  unfold Oper.apart
  cases hx : x.dst <;> cases hy : y.dst <;> simp
  · exact h3 _ hy
  · exact h1 _ hx
  · exact ⟨⟨h3 _ hy, fun e => h2 _ hx (by rw [hy, e])⟩, h1 _ hx⟩
/-- What waits is listed behind what it waits for. -/
def Closed (md : Region.Mode) (ops : Array Oper) (listed : Array Bool) : Prop :=
  ∀ j o, ops[j]? = some o → listed.getD j false = true → ∀ e ∈ o.after, Region.binds md e = true → listed.getD e.on false = true
theorem Closed.set {listed : Array Bool} {i : Nat} (h : Closed md ops listed) (hi : i ∈ Region.ready md ops listed) : Closed md ops (listed.setIfInBounds i true) := by
  obtain ⟨_, oi, hoi, hall⟩ := mem_ready.1 hi
  intro j oj hj hl e he hb
  by_cases hij : i = j
  · subst hij
    have : oj = oi := Option.some.inj (hj.symm.trans hoi)
    subst this
    exact getD_set_true (hall e he hb)
  · rw [getD_set_ne false hij] at hl
    exact getD_set_true (h j oj hj hl e he hb)
theorem Closed.dep {listed : Array Bool} (h : Closed md ops listed) {k i : Nat} (hk : listed.getD k false = false) (hd : Dep md ops k i) :
    listed.getD i false = false ∧ i ∉ Region.ready md ops listed := by
  induction hd with
  | direct ho he hb hek =>
    subst hek
    constructor
    · cases hl : listed.getD _ false
      · rfl
      · rw [h _ _ ho hl _ he hb] at hk; cases hk
    · intro hr
      obtain ⟨_, o', ho', hall⟩ := mem_ready.1 hr
      cases Option.some.inj (ho.symm.trans ho')
      rw [hall _ he hb] at hk; cases hk
  | trans ho he hb _ ih =>
    constructor
    · cases hl : listed.getD _ false
      · rfl
      · rw [h _ _ ho hl _ he hb] at ih; cases ih.1
    · intro hr
      obtain ⟨_, o', ho', hall⟩ := mem_ready.1 hr
      cases Option.some.inj (ho.symm.trans ho')
      rw [hall _ he hb] at ih; cases ih.1

/-- One operation hands back the value and leaves the world. -/
def calmAt (P : Program) (o : Oper) (a : Act) (v : Value) (w : World) : Prop :=
  (execOp a.eval o).run P w = .ok (.value v) w ∨ ((execOp a.eval o).run P w = .ok .skip w ∧ v = undef)
theorem calmAt_det {o : Oper} {a : Act} {v v' : Value} {w : World} (h : calmAt P o a v w) (h' : calmAt P o a v' w) : v = v' := by
  rcases h with h | ⟨h, rfl⟩ <;> rcases h' with h' | ⟨h', rfl⟩ <;> rw [h] at h' <;> cases h' <;> rfl

def Calm (P : Program) (ops : Array Oper) (C : World → Prop) (o : Oper) (v : Value) (a : Act) : Prop :=
  (Region.wanted o (yielded ops a.tmps) = true ∧ ∀ w, C w → calmAt P o a v w) ∨ (Region.wanted o (yielded ops a.tmps) = false ∧ v = undef)

variable {C : World → Prop}
theorem Calm.of_same {o : Oper} {v : Value} {a a' : Act} (hy : Calm P ops C o v a) (he : execOp a'.eval o = execOp a.eval o)
    (hw : Region.wanted o (yielded ops a'.tmps) = Region.wanted o (yielded ops a.tmps)) : Calm P ops C o v a' := by
  unfold Calm calmAt at *
  rw [he, hw]
  exact hy
theorem Calm.det {o : Oper} {v v' : Value} {a : Act} {w : World} (hC : C w) (h : Calm P ops C o v a) (h' : Calm P ops C o v' a) : v = v' := by
  rcases h with ⟨h1, h⟩ | ⟨h1, rfl⟩ <;> rcases h' with ⟨h2, h'⟩ | ⟨h2, rfl⟩
  · exact calmAt_det (h w hC) (h' w hC)
  · rw [h1] at h2; cases h2
  · rw [h1] at h2; cases h2
  · rfl

def QF : Exit → Act → World → Prop := fun _ _ _ => False

/-- An operation whose run is followed as it stands. -/
def loudOp (P : Program) (ops : Array Oper) (o : Oper) (K : Act → World → Prop) (a : Act) (w : World) : Prop :=
  if Region.wanted o (yielded ops a.tmps) then o.wp P a w K QF else K (a.put o.dst undef) w
theorem loudOp_mono {o : Oper} {K K' : Act → World → Prop} {a : Act} {w : World} (h : ∀ a w, K a w → K' a w) (hh : loudOp P ops o K a w) : loudOp P ops o K' a w := by
  unfold loudOp at *
  split
  · rename_i hw; simp only [hw, if_true] at hh; exact Oper.wp_mono h hh
  · rename_i hw; simp only [hw] at hh; exact h _ _ hh

/-- There is an end to it. -/
theorem loudOp_some {o : Oper} {K : Act → World → Prop} {a : Act} {w : World} (h : loudOp P ops o K a w) : ∃ ds u w', K (({ a with defers := ds } : Act).put o.dst u) w' := by
  unfold loudOp at h
  split at h
  · unfold Oper.wp at h
    generalize (execOp a.eval o).run P w = r at h
    cases r with
    | ok n w' =>
      cases n <;> simp only [Oper.upon] at h
      case value u => exact ⟨a.defers, u, w', h⟩
      case skip => exact ⟨a.defers, undef, w', h⟩
      case defer d => exact ⟨_, undef, w', h⟩
      case enter f args =>
        obtain ⟨e, w'', _, hR, _⟩ := h []
        cases e with
        | returned v => exact ⟨a.defers, v, w'', hR⟩
        | panicked c => exact hR.elim
        | outgrown => obtain ⟨_, _, hR⟩ := hR; exact hR.elim
      case row row args =>
        obtain ⟨v, w'', hR, _⟩ := h default []
        exact ⟨a.defers, v, w'', hR⟩
    | halt x w' => cases x <;> simp only [Oper.upon, QF] at h
  · exact ⟨a.defers, undef, w, h⟩

theorem loudOp_pull {oi oj : Oper} {v : Value} (hap : oi.apart ops oj = true) (hsj : ∀ cs b, oj.op ≠ .select cs b) {K : Act → World → Prop} {a : Act} {w : World}
    (h : loudOp P ops oj (fun a' w' => K (a'.put oi.dst v) w') a w) : loudOp P ops oj K (a.put oi.dst v) w := by
  obtain ⟨h1, h2, h3⟩ := Oper.apart_spec hap
  unfold loudOp at *
  rw [wanted_put oj a oi.dst v h1]
  split
  · rename_i hw
    simp only [hw, if_true] at h
    unfold Oper.wp at *
    rw [execOp_put oj hsj a oi.dst v h1]
    generalize (execOp a.eval oj).run P w = r at *
    cases r with
    | ok n w' =>
      cases n <;> simp only [Oper.upon] at h ⊢
      case value u => rw [Act.put_comm a v u h2]; exact h
      case skip => rw [Act.put_comm a v undef h2]; exact h
      case defer d => rw [Act.put_defers, Act.put_comm _ v undef h2]; exact h
      case enter f args =>
        refine Calls.mono h fun e w'' he => ?_
        cases e with
        | returned u => show K ((a.put oi.dst v).put oj.dst u) w''; rw [Act.put_comm a v u h2]; exact he
        | panicked c => exact he
        | outgrown => exact he
      case row row args => exact Rows.mono h fun u w'' he => by rw [Act.put_comm a v u h2]; exact he
    | halt x w' => cases x <;> simp only [Oper.upon] at h ⊢ <;> exact h
  · rename_i hw
    simp only [hw] at h
    rw [Act.put_comm a v undef h2]; exact h
theorem loudOp_push {oi oj : Oper} {v : Value} (hap : oi.apart ops oj = true) (hsj : ∀ cs b, oj.op ≠ .select cs b) {K : Act → World → Prop} {a : Act} {w : World}
    (h : loudOp P ops oj K (a.put oi.dst v) w) : loudOp P ops oj (fun a' w' => K (a'.put oi.dst v) w') a w := by
  obtain ⟨h1, h2, h3⟩ := Oper.apart_spec hap
  unfold loudOp at *
  rw [wanted_put oj a oi.dst v h1] at h
  split
  · rename_i hw
    simp only [hw, if_true] at h
    unfold Oper.wp at *
    rw [execOp_put oj hsj a oi.dst v h1] at h
    generalize (execOp a.eval oj).run P w = r at *
    cases r with
    | ok n w' =>
      cases n <;> simp only [Oper.upon] at h ⊢
      case value u => rw [← Act.put_comm a v u h2]; exact h
      case skip => rw [← Act.put_comm a v undef h2]; exact h
      case defer d => rw [← Act.put_comm _ v undef h2, ← Act.put_defers]; exact h
      case enter f args =>
        refine Calls.mono h fun e w'' he => ?_
        cases e with
        | returned u => show K ((a.put oj.dst u).put oi.dst v) w''; rw [← Act.put_comm a v u h2]; exact he
        | panicked c => exact he
        | outgrown => exact he
      case row row args => exact Rows.mono h fun u w'' he => by rw [← Act.put_comm a v u h2]; exact he
    | halt x w' => cases x <;> simp only [Oper.upon] at h ⊢ <;> exact h
  · rename_i hw
    simp only [hw] at h
    rw [← Act.put_comm a v undef h2]; exact h

/-- What operation j does not look at, it is calm without. -/
theorem Calm.put {o : Oper} {v : Value} {a : Act} (hs : ∀ cs b, o.op ≠ .select cs b) (hy : Calm P ops C o v a) {d : Option Tmp} (h : ∀ t, d = some t → t ∉ o.looksAt ops) (ds : List Deferred) (u : Value) :
    Calm P ops C o v (({ a with defers := ds } : Act).put d u) :=
  hy.of_same ((execOp_put o hs { a with defers := ds } d u h).trans rfl) ((wanted_put o { a with defers := ds } d u h).trans rfl)
theorem Calm.unput {o : Oper} {v : Value} {a : Act} (hs : ∀ cs b, o.op ≠ .select cs b) {d : Option Tmp} (h : ∀ t, d = some t → t ∉ o.looksAt ops) {ds : List Deferred} {u : Value}
    (hy : Calm P ops C o v (({ a with defers := ds } : Act).put d u)) : Calm P ops C o v a :=
  hy.of_same ((execOp_put o hs { a with defers := ds } d u h).trans rfl).symm ((wanted_put o { a with defers := ds } d u h).trans rfl).symm

/-! The plan of a region: L: the operations that are followed as they stand; D: those that are calm in every world; the others are calm in the class C, which holds till operation m. -/
structure Plan where
  L : List Nat
  D : List Nat
  m : Nat
def Plan.cls (p : Plan) (C : World → Prop) (i : Nat) : World → Prop := if p.D.contains i then fun _ => True else C
def stepC (P : Program) (ops : Array Oper) (p : Plan) (C : World → Prop) (i : Nat) (K : Act → World → Prop) (a : Act) (w : World) : Prop :=
  match ops[i]? with
  | none => K a w
  | some o => if p.L.contains i then loudOp P ops o K a w else ∃ v, Calm P ops (p.cls C i) o v a ∧ K (a.put o.dst v) w
theorem stepC_mono {p : Plan} {i : Nat} {K K' : Act → World → Prop} {a : Act} {w : World} (h : ∀ a w, K a w → K' a w) (hh : stepC P ops p C i K a w) : stepC P ops p C i K' a w := by
  unfold stepC at *
  split
  · simp_all
  · rename_i o ho
    simp only [ho] at hh
    split
    · rename_i hl; simp only [hl, if_true] at hh; exact loudOp_mono h hh
    · rename_i hl; simp only [hl] at hh; obtain ⟨v, h1, h2⟩ := hh; exact ⟨v, h1, h _ _ h2⟩

def wpAnyC (P : Program) (md : Region.Mode) (ops : Array Oper) (p : Plan) (C : World → Prop) (Q : Act → World → Prop) : Nat → Array Bool → Act → World → Prop
  | 0, listed, a, w => (listed.getD p.m false = false → C w) ∧ Region.ready md ops listed = [] ∧ Q a w
  | fuel + 1, listed, a, w => (listed.getD p.m false = false → C w) ∧ (Region.ready md ops listed = [] → Q a w) ∧
    ∀ i ∈ Region.ready md ops listed, stepC P ops p C i (wpAnyC P md ops p C Q fuel (listed.setIfInBounds i true)) a w

/-- In every state what is not loud and not calm everywhere comes before m. -/
def Plan.before (p : Plan) (md : Region.Mode) (ops : Array Oper) : Prop := ∀ i, i ∉ p.L → i ∉ p.D → i < ops.size → (ops.size ≤ p.m ∨ (i ≠ p.m ∧ Dep md ops i p.m))

theorem cls_holds {p : Plan} {listed : Array Bool} {i : Nat} {w : World} (hp : p.before md ops) (hc : Closed md ops listed) (hsz : listed.size = ops.size) (hl : i ∉ p.L) (hi : i < ops.size)
    (hun : listed.getD i false = false) (h : listed.getD p.m false = false → C w) : p.cls C i w := by
  unfold Plan.cls
  split
  · trivial
  · rename_i hd
    refine h ?_
    rcases hp i hl (by simpa using hd) hi with h1 | ⟨_, h1⟩
    · simp [Array.getElem?_eq_none (by omega : listed.size ≤ p.m)]
    · exact (hc.dep hun h1).1

theorem unl {listed : Array Bool} {i : Nat} (h : listed.getD i true = false) : listed.getD i false = false := by
  rcases Nat.lt_or_ge i listed.size with h' | h'
  · simp [h'] at h ⊢; exact h
  · simp [Array.getElem?_eq_none h'] at h

variable {Q : Act → World → Prop} {p : Plan}
theorem wpAnyC_C {fuel : Nat} {listed : Array Bool} {a : Act} {w : World} (h : wpAnyC P md ops p C Q fuel listed a w) : listed.getD p.m false = false → C w := by
  cases fuel with
  | zero => exact h.1
  | succ f => exact h.1

/-- A calm operation may be taken first. -/
theorem wpAnyC_first (hsel : ∀ (j : Nat) (o : Oper) cs b, ops[j]? = some o → o.op ≠ .select cs b) (hp : p.before md ops) {i : Nat} {oi : Oper} {v : Value} (hi : ops[i]? = some oi) (hiL : i ∉ p.L) :
    ∀ (fuel : Nat) (listed : Array Bool) (a : Act) (w : World), Closed md ops listed → listed.size = ops.size →
      (∀ j oj, ops[j]? = some oj → j ≠ i → listed.getD j true = false → (∀ e ∈ oj.after, Region.binds md e = true → e.on ≠ i) → oi.apart ops oj = true) →
      i ∈ Region.ready md ops listed → Calm P ops (p.cls C i) oi v a → (listed.getD p.m false = false → C w) → i ≠ p.m →
      wpAnyC P md ops p C Q fuel (listed.setIfInBounds i true) (a.put oi.dst v) w → wpAnyC P md ops p C Q (fuel + 1) listed a w := by
  have hsi := fun cs b => hsel i oi cs b hi
  have hilt : i < ops.size := (Array.getElem?_eq_some_iff.1 hi).1
  intro fuel
  induction fuel with
  | zero =>
    intro listed a w hcl hsz _ hr hy hC him H
    refine ⟨hC, fun h => (by rw [h] at hr; cases hr), fun j hj => ?_⟩
    by_cases hji : j = i
    · subst hji
      unfold stepC
      simp only [hi, show p.L.contains j = false by simpa using hiL, Bool.false_eq_true, if_false]
      exact ⟨v, hy, H⟩
    · have := ready_mono hj hji
      rw [H.2.1] at this
      cases this
  | succ fuel ih =>
    intro listed a w hcl hsz hfree hr hy hC him H
    refine ⟨hC, fun h => (by rw [h] at hr; cases hr), fun j hj => ?_⟩
    by_cases hji : j = i
    · subst hji
      unfold stepC
      simp only [hi, show p.L.contains j = false by simpa using hiL, Bool.false_eq_true, if_false]
      exact ⟨v, hy, H⟩
    · have h1 := H.2.2 j (ready_mono hj hji)
      obtain ⟨hjun, oj, hoj, hall⟩ := mem_ready.1 hj
      have hjlt : j < ops.size := (Array.getElem?_eq_some_iff.1 hoj).1
      have hiun : listed.getD i true = false := (mem_ready.1 hr).1
      have hnot : ∀ e ∈ oj.after, Region.binds md e = true → e.on ≠ i := fun e he hb heq => by
        have h1 := hall e he hb
        rw [heq, unl hiun] at h1; cases h1
      have hap := hfree j oj hoj hji hjun hnot
      obtain ⟨q1, q2, q3⟩ := Oper.apart_spec hap
      have hsj := fun cs b => hsel j oj cs b hoj
      have hcl' := hcl.set hj
      have hfree' : ∀ k ok, ops[k]? = some ok → k ≠ i → (listed.setIfInBounds j true).getD k true = false →
          (∀ e ∈ ok.after, Region.binds md e = true → e.on ≠ i) → oi.apart ops ok = true := fun k ok hk hki hun hno => by
        refine hfree k ok hk hki ?_ hno
        by_cases hjk : j = k
        · subst hjk; exact hjun
        · rw [getD_set_ne true hjk] at hun; exact hun
      have next : ∀ a' w', Calm P ops (p.cls C i) oi v a' → wpAnyC P md ops p C Q fuel ((listed.setIfInBounds i true).setIfInBounds j true) (a'.put oi.dst v) w' →
          wpAnyC P md ops p C Q (fuel + 1) (listed.setIfInBounds j true) a' w' := fun a' w' hy' h' => by
        rw [Array.setIfInBounds_comm _ _ (Ne.symm hji)] at h'
        refine ih _ a' w' hcl' (by simp [hsz]) hfree' (ready_mono hr (Ne.symm hji)) hy' ?_ him h'
        intro hm
        exact wpAnyC_C h' (by rw [getD_set_ne false him]; exact hm)
      unfold stepC at h1 ⊢
      simp only [hoj] at h1 ⊢
      split
      · rename_i hl
        simp only [hl, if_true] at h1
        have h2 := loudOp_push hap hsj h1
        have key : ∀ (K : Act → World → Prop), loudOp P ops oj K a w → loudOp P ops oj (fun a' w' => K a' w' ∧ Calm P ops (p.cls C i) oi v a') a w := fun K hK => by
          unfold loudOp at hK ⊢
          split
          · rename_i hw
            simp only [hw, if_true] at hK
            unfold Oper.wp at hK ⊢
            generalize (execOp a.eval oj).run P w = r at *
            cases r with
            | ok n w' =>
              cases n <;> simp only [Oper.upon] at hK ⊢
              case value u => exact ⟨hK, hy.put hsi q3 a.defers u⟩
              case skip => exact ⟨hK, hy.put hsi q3 a.defers _⟩
              case defer d => exact ⟨hK, hy.put hsi q3 _ _⟩
              case enter f args =>
                refine Calls.mono hK fun e w'' he => ?_
                cases e with
                | returned u => exact ⟨he, hy.put hsi q3 a.defers u⟩
                | panicked c => exact he
                | outgrown => exact he
              case row row args => exact Rows.mono hK fun u w'' he => ⟨he, hy.put hsi q3 a.defers u⟩
            | halt x w' => cases x <;> simp only [Oper.upon] at hK ⊢ <;> exact hK
          · rename_i hw
            simp only [hw] at hK
            exact ⟨hK, hy.put hsi q3 a.defers _⟩
        exact loudOp_mono (fun a' w' h3 => next a' w' h3.2 h3.1) (key _ h2)
      · rename_i hl
        simp only [hl] at h1
        obtain ⟨u, hu, hK⟩ := h1
        refine ⟨u, ?_, next _ w (hy.put hsi q3 a.defers u) ?_⟩
        · exact Calm.unput hsj (ds := a.defers) q1 hu
        · rw [← Act.put_comm a v u q2]; exact hK

/-- An operation that is followed as it stands may be taken first, if all others of its kind wait for it. -/
theorem wpAnyC_loud (hsel : ∀ (j : Nat) (o : Oper) cs b, ops[j]? = some o → o.op ≠ .select cs b) (hp : p.before md ops) (hmL : p.m < ops.size → p.m ∈ p.L) {k : Nat} {ok : Oper} (hk : ops[k]? = some ok) (hkL : k ∈ p.L) :
    ∀ (fuel : Nat) (listed : Array Bool) (a : Act) (w : World), Closed md ops listed → listed.size = ops.size →
      (∀ j oj, ops[j]? = some oj → j ≠ k → listed.getD j true = false → (∀ e ∈ oj.after, Region.binds md e = true → e.on ≠ k) → ok.apart ops oj = true) →
      (∀ j, j ∈ p.L → j ≠ k → j < ops.size → listed.getD j true = false → Dep md ops k j) →
      k ∈ Region.ready md ops listed → (listed.getD p.m false = false → C w) →
      stepC P ops p C k (wpAnyC P md ops p C Q fuel (listed.setIfInBounds k true)) a w → wpAnyC P md ops p C Q (fuel + 1) listed a w := by
  have hsk := fun cs b => hsel k ok cs b hk
  have hklt : k < ops.size := (Array.getElem?_eq_some_iff.1 hk).1
  have hkc : p.L.contains k = true := by simpa using hkL
  intro fuel
  induction fuel with
  | zero =>
    intro listed a w hcl hsz hfree hord hr hC H
    refine ⟨hC, fun h => (by rw [h] at hr; cases hr), fun i hi => ?_⟩
    by_cases hik : i = k
    · subst hik; exact H
    · exfalso
      unfold stepC at H
      simp only [hk, hkc, if_true] at H
      obtain ⟨ds, u, w', hK⟩ := loudOp_some H
      have := ready_mono hi hik
      rw [hK.2.1] at this
      cases this
  | succ f ih =>
    intro listed a w hcl hsz hfree hord hr hC H
    refine ⟨hC, fun h => (by rw [h] at hr; cases hr), fun i hi => ?_⟩
    by_cases hik : i = k
    · subst hik; exact H
    · obtain ⟨hiun, oi, hoi, hall⟩ := mem_ready.1 hi
      have hkun := (mem_ready.1 hr).1
      have hilt : i < ops.size := (Array.getElem?_eq_some_iff.1 hoi).1
      have hiL : i ∉ p.L := fun hL => (hcl.dep (unl hkun) (hord i hL hik hilt hiun)).2 hi
      have hic : p.L.contains i = false := by simpa using hiL
      have hnot : ∀ e ∈ oi.after, Region.binds md e = true → e.on ≠ k := fun e he hb heq => by
        have h1 := hall e he hb
        rw [heq, unl hkun] at h1; cases h1
      have hap := hfree i oi hoi hik hiun hnot
      obtain ⟨q1, q2, q3⟩ := Oper.apart_spec hap
      have hsi := fun cs b => hsel i oi cs b hoi
      have him : i ≠ p.m := fun e => hiL (e ▸ hmL (e ▸ hilt))
      unfold stepC at H
      simp only [hk, hkc, if_true] at H
      -- what i hands back
      obtain ⟨v, hv⟩ : ∃ v, Calm P ops (p.cls C i) oi v a := by
        obtain ⟨ds, u, w', hK⟩ := loudOp_some H
        have h2 := hK.2.2 i (ready_mono hi hik)
        unfold stepC at h2
        simp only [hoi, hic, Bool.false_eq_true, if_false] at h2
        obtain ⟨v, h3, _⟩ := h2
        exact ⟨v, Calm.unput hsi q1 h3⟩
      have hck : Closed md ops (listed.setIfInBounds k true) := hcl.set hr
      -- behind k, i is taken
      have H2 : loudOp P ops ok (fun a' w' => wpAnyC P md ops p C Q f ((listed.setIfInBounds k true).setIfInBounds i true) (a'.put oi.dst v) w') a w := by
        have key : ∀ (K : Act → World → Prop), loudOp P ops ok K a w → loudOp P ops ok (fun a' w' => K a' w' ∧ Calm P ops (p.cls C i) oi v a') a w := fun K hK => by
          unfold loudOp at hK ⊢
          split
          · rename_i hw
            simp only [hw, if_true] at hK
            unfold Oper.wp at hK ⊢
            generalize (execOp a.eval ok).run P w = r at *
            cases r with
            | ok n w' =>
              cases n <;> simp only [Oper.upon] at hK ⊢
              case value u => exact ⟨hK, hv.put hsi q1 a.defers u⟩
              case skip => exact ⟨hK, hv.put hsi q1 a.defers _⟩
              case defer d => exact ⟨hK, hv.put hsi q1 _ _⟩
              case enter f args =>
                refine Calls.mono hK fun e w'' he => ?_
                cases e with
                | returned u => exact ⟨he, hv.put hsi q1 a.defers u⟩
                | panicked c => exact he
                | outgrown => exact he
              case row row args => exact Rows.mono hK fun u w'' he => ⟨he, hv.put hsi q1 a.defers u⟩
            | halt x w' => cases x <;> simp only [Oper.upon] at hK ⊢ <;> exact hK
          · rename_i hw
            simp only [hw] at hK
            exact ⟨hK, hv.put hsi q1 a.defers _⟩
        refine loudOp_mono (fun a' w' h3 => ?_) (key _ H)
        obtain ⟨h3, hcalm⟩ := h3
        have h4 := h3.2.2 i (ready_mono hi hik)
        unfold stepC at h4
        simp only [hoi, hic, Bool.false_eq_true, if_false] at h4
        obtain ⟨v', h5, h6⟩ := h4
        have hun' : (listed.setIfInBounds k true).getD i false = false := by rw [getD_set_ne false (Ne.symm hik)]; exact unl hiun
        have : v' = v := h5.det (cls_holds hp hck (by simp [hsz]) hiL hilt hun' h3.1) hcalm
        rw [← this]; exact h6
      have H3 := loudOp_pull (K := wpAnyC P md ops p C Q f ((listed.setIfInBounds i true).setIfInBounds k true)) (w := w) (a := a) (v := v)
        (apart_symm hap) hsk (by
          rw [Array.setIfInBounds_comm _ _ hik]; exact H2)
      unfold stepC
      simp only [hoi, hic, Bool.false_eq_true, if_false]
      refine ⟨v, hv, ih _ _ w (hcl.set hi) (by simp [hsz]) ?_ ?_ (ready_mono hr (Ne.symm hik)) ?_ ?_⟩
      · intro j oj hj hjk hun hno
        refine hfree j oj hj hjk ?_ hno
        by_cases hij : i = j
        · subst hij; exact hiun
        · rw [getD_set_ne true hij] at hun; exact hun
      · intro j hjL hjk hjlt hun
        refine hord j hjL hjk hjlt ?_
        rw [getD_set_ne true (fun e => by subst e; exact hiL hjL)] at hun; exact hun
      · intro hm; rw [getD_set_ne false him] at hm; exact hC hm
      · unfold stepC
        simp only [hk, hkc, if_true]
        exact H3

/-! ### The text's order -/
/-- The walk in the text's order. -/
def wpC (P : Program) (ops : Array Oper) (p : Plan) (C : World → Prop) (Q : Act → World → Prop) : Nat → List Oper → Act → World → Prop
  | _, [], a, w => Q a w
  | k, o :: l, a, w =>
    if p.L.contains k then loudOp P ops o (fun a' w' => (k < p.m → C w') ∧ wpC P ops p C Q (k + 1) l a' w') a w
    else ∃ v, Calm P ops (p.cls C k) o v a ∧ (k < p.m → C w) ∧ wpC P ops p C Q (k + 1) l (a.put o.dst v) w

def Plan.okB (p : Plan) (md : Region.Mode) (ops : Array Oper) : Bool :=
  Region.lexB md ops && (decide (ops.size ≤ p.m) || p.L.contains p.m) &&
  (List.range ops.size).all fun i => if p.L.contains i then p.L.all fun k => decide (i ≤ k) || decide (ops.size ≤ k) || depB md ops k ops.size i
    else p.D.contains i || decide (ops.size ≤ p.m) || (i != p.m && depB md ops i ops.size p.m)

theorem wpAnyC_lex (hs : Region.noSelect ops = true) (hp : p.before md ops) (hmL : p.m < ops.size → p.m ∈ p.L)
    (hord : ∀ k j, k ∈ p.L → j ∈ p.L → k < j → j < ops.size → Dep md ops k j) : ∀ (l : List Oper) (k : Nat) (listed : Array Bool) (a : Act) (w : World), k + l.length = ops.size → (∀ j, l[j]? = ops[k + j]?) →
    Closed md ops listed → listed.size = ops.size → (∀ j, j < ops.size → listed.getD j false = decide (j < k)) →
    Region.lexFrom md ops l.length k listed = true → (k ≤ p.m → C w) → wpC P ops p C Q k l a w → wpAnyC P md ops p C Q l.length listed a w
  | [], k, listed, a, w, hk, hl, hcl, hsz, hlist, hB, hC, h => by
    simp at hk
    refine ⟨fun hm => hC ?_, by simpa [Region.lexFrom] using hB, h⟩
    rcases Nat.lt_or_ge p.m ops.size with h1 | h1
    · rw [hlist _ h1] at hm
      have := of_decide_eq_false hm
      omega
    · omega
  | o :: l, k, listed, a, w, hk, hl, hcl, hsz, hlist, hB, hC, h => by
    have h0 : ops[k]? = some o := by simpa using (hl 0).symm
    have hklt : k < ops.size := (Array.getElem?_eq_some_iff.1 h0).1
    simp only [List.length_cons] at hk
    simp only [List.length_cons, Region.lexFrom, Bool.and_eq_true] at hB
    obtain ⟨⟨hr, hf⟩, hB'⟩ := hB
    have hr' : k ∈ Region.ready md ops listed := by simpa using hr
    have hcl' := hcl.set hr'
    have hlist' : ∀ j, j < ops.size → (listed.setIfInBounds k true).getD j false = decide (j < k + 1) := fun j hj => by
      by_cases hjk : k = j
      · subst hjk; simp [hsz, hklt]
      · rw [getD_set_ne false hjk, hlist j hj]; simp; omega
    have hCw : listed.getD p.m false = false → C w := fun hm => hC (by
      rcases Nat.lt_or_ge p.m ops.size with h1 | h1
      · rw [hlist _ h1] at hm
        have := of_decide_eq_false hm
        omega
      · omega)
    have ih := fun a' w' (h' : (k < p.m → C w') ∧ wpC P ops p C Q (k + 1) l a' w') => wpAnyC_lex hs hp hmL hord l (k + 1) _ a' w' (by omega) (fun j => by have := hl (j + 1); simpa [Nat.add_assoc, Nat.add_comm 1 j] using this) hcl' (by simp [hsz]) hlist' hB' (fun hk => h'.1 hk) h'.2
    have hfree := Region.free_spec h0 hf
    by_cases hkL : k ∈ p.L
    · refine wpAnyC_loud (Region.noSelect_spec hs) hp hmL h0 hkL l.length listed a w hcl hsz hfree (fun j hjL hjk hjlt hun => hord k j hkL hjL ?_ hjlt) hr' hCw (stepC_mono ih (by unfold wpC at h; unfold stepC; simp only [h0]; simp only [show p.L.contains k = true by simpa using hkL, if_true] at h ⊢; exact h))
      have h1 := unl hun
      rw [hlist j hjlt] at h1
      have := of_decide_eq_false h1
      omega
    · have hkm : k ≠ p.m := fun e => hkL (e ▸ hmL (e ▸ hklt))
      unfold wpC at h
      simp only [show p.L.contains k = false by simpa using hkL, Bool.false_eq_true, if_false] at h
      obtain ⟨v, hy, hK⟩ := h
      exact wpAnyC_first (Region.noSelect_spec hs) hp h0 hkL l.length listed a w hcl hsz hfree hr' hy hCw hkm (ih _ _ hK)

theorem wpAny_of_C {Q' : Exit → Act → World → Prop} (hQ : ∀ a w, Q a w → Q' .normal a w) (hp : p.before md ops) : ∀ (fuel : Nat) (listed : Array Bool) (a : Act) (w : World), Closed md ops listed → listed.size = ops.size →
    wpAnyC P md ops p C Q fuel listed a w → wpAny P md ops Q' fuel listed a w
  | 0, _, _, _, _, _, h => ⟨h.2.1, hQ _ _ h.2.2⟩
  | fuel + 1, listed, a, w, hcl, hsz, h => ⟨fun h0 => hQ _ _ (h.2.1 h0), fun i hi => by
      have h1 := h.2.2 i hi
      obtain ⟨hiun, o, ho, _⟩ := mem_ready.1 hi
      have next := fun a' w' => wpAny_of_C hQ hp fuel (listed.setIfInBounds i true) a' w' (hcl.set hi) (by simp [hsz])
      unfold stepC at h1
      unfold wpOp
      simp only [ho] at h1 ⊢
      by_cases hl : p.L.contains i = true
      · simp only [hl, if_true] at h1
        unfold loudOp at h1
        split
        · rename_i hw
          simp only [hw, if_true] at h1
          refine .inl ?_
          unfold Oper.wp at *
          generalize (execOp a.eval o).run P w = r at *
          cases r with
          | ok n w' =>
            cases n <;> simp only [Oper.upon] at h1 ⊢
            case value u => exact next _ _ h1
            case skip => exact next _ _ h1
            case defer d => exact next _ _ h1
            case enter f args =>
              refine Calls.mono h1 fun e w'' he => ?_
              cases e with
              | returned u => exact next _ _ he
              | panicked c => exact he.elim
              | outgrown => obtain ⟨_, _, he⟩ := he; exact he.elim
            case row row args => exact Rows.mono h1 fun u w'' he => next _ _ he
          | halt x w' => cases x <;> simp only [Oper.upon, QF] at h1
        · rename_i hw
          simp only [hw] at h1
          exact next _ _ h1
      · simp only [hl] at h1
        obtain ⟨v, hy, hK⟩ := h1
        have hiL : i ∉ p.L := by simpa using hl
        have hilt : i < ops.size := (Array.getElem?_eq_some_iff.1 ho).1
        have hc := cls_holds hp hcl hsz hiL hilt (unl hiun) h.1
        rcases hy with ⟨hw, hv⟩ | ⟨hw, rfl⟩
        · simp only [hw, if_true]
          refine .inl ?_
          rcases hv w hc with hv1 | ⟨hv1, hu⟩
          · unfold Oper.wp; rw [hv1]; exact next _ _ hK
          · subst hu; unfold Oper.wp; rw [hv1]; exact next _ _ hK
        · simp only [hw, Bool.false_eq_true, if_false]; exact next _ _ hK⟩

/-- **A REGION THAT DRAWS ITS ORDER, WALKED IN THE TEXT's ORDER.** -/
theorem wp_region_text {id : Nat} {Q' : Exit → Act → World → Prop} {a : Act} {w : World} {l : List Oper} (p : Plan) (C : World → Prop) (hm : P.follows .mixedOrders = true) (hB : p.okB .any l.toArray = true)
    (hC : C w.drew) (h : wpC P l.toArray p C (fun a' w' => Q' .normal a' w') 0 l a w.drew) : (Code.region id l.toArray true).wp P Q' a w := by
  simp only [Plan.okB, Region.lexB, Bool.and_eq_true, Bool.or_eq_true, decide_eq_true_eq, List.all_eq_true, List.mem_range] at hB
  obtain ⟨⟨⟨hs, hlex⟩, hm'⟩, hall⟩ := hB
  have hmL : p.m < l.toArray.size → p.m ∈ p.L := fun h1 => by
    rcases hm' with h2 | h2
    · omega
    · simpa using h2
  have hbef : p.before .any l.toArray := fun i hiL hiD hilt => by
    have h1 := hall i hilt
    simp only [show p.L.contains i = false by simpa using hiL, show p.D.contains i = false by simpa using hiD, Bool.false_eq_true, if_false, Bool.false_or, Bool.or_eq_true, decide_eq_true_eq, Bool.and_eq_true, bne_iff_ne] at h1
    rcases h1 with h1 | h1
    · exact .inl h1
    · exact .inr ⟨h1.1, depB_spec _ _ h1.2⟩
  have hord : ∀ k j, k ∈ p.L → j ∈ p.L → k < j → j < l.toArray.size → Dep .any l.toArray k j := fun k j hk hj hkj hjlt => by
    have h1 := hall j hjlt
    simp only [show p.L.contains j = true by simpa using hj, if_true, List.all_eq_true, Bool.or_eq_true, decide_eq_true_eq] at h1
    rcases h1 k hk with (h2 | h2) | h2
    · omega
    · omega
    · exact depB_spec _ _ h2
  have hcl : Closed Region.Mode.any l.toArray (Array.replicate l.toArray.size false) := fun j o _ hl' => by
    rcases Nat.lt_or_ge j l.toArray.size with h1 | h1 <;> simp_all
  refine wp_region_any hm (wpAny_of_C (Q := fun a' w' => Q' .normal a' w') (p := p) (C := C) (fun _ _ h => h) hbef _ _ _ _ hcl (by simp) ?_)
  have := wpAnyC_lex (C := C) hs hbef hmL hord l 0 (Array.replicate l.toArray.size false) a { w with drawn := w.drawn + 1 } (by simp) (by simp) hcl (by simp)
    (fun j hj => by simp_all) (by simpa using hlex) (fun _ => hC) h
  simpa using this

/-! ### Its steps -/
def noEnter (o : Oper) : Bool := match o.op with
  | .call { callee := .builtin .len, .. } | .call { callee := .builtin .cap, .. } | .call { callee := .builtin .max, .. } | .call { callee := .builtin .min, .. } => true
  | .call _ | .go _ | .defer _ | .send .. | .recv .. | .select .. => false
  | _ => true
theorem v_run {s : Sem Value} {w w' : World} {f : FuncId} {args : Array Value} (h : (do pure (.value (← s)) : Sem Next).run P w = .ok (.enter f args) w') : False := by
  rw [Sem.run_bind] at h
  cases hs : s.run P w with
  | ok v w1 => rw [hs] at h; simp at h
  | halt x w1 => rw [hs] at h; simp at h
theorem u_run {s : Sem Unit} {w w' : World} {f : FuncId} {args : Array Value} (h : (do s; pure .skip : Sem Next).run P w = .ok (.enter f args) w') : False := by
  rw [Sem.run_bind] at h
  cases hs : s.run P w with
  | ok v w1 => rw [hs] at h; simp at h
  | halt x w1 => rw [hs] at h; simp at h
theorem noEnter_run {o : Oper} {ρ : Operand → Value} {w w' : World} {f : FuncId} {args : Array Value} (hn : noEnter o = true) : (execOp ρ o).run P w ≠ .ok (.enter f args) w' := by
  intro h
  obtain ⟨dst, op, type, pos, after, guard⟩ := o
  cases op
  case call c =>
    obtain ⟨callee, args', ts⟩ := c
    cases callee
    case builtin b =>
      cases b <;> simp [noEnter] at hn
      all_goals
        simp only [execOp, resolve, Sem.run_bind, Sem.run_pure, Result.andThen_ok, invoke, builtin] at h
        exact v_run (by rw [Sem.run_bind]; exact h)
    all_goals simp [noEnter] at hn
  all_goals first | (simp [noEnter] at hn; done) | skip
  case nilCheck x =>
    simp only [execOp] at h
    have hb : ∀ {α : Type} (s : Sem α) (g : α → Sem Next) (w : World), (∀ x w1, (g x).run P w1 ≠ .ok (.enter f args) w') → (s >>= g).run P w ≠ .ok (.enter f args) w' := fun s g w hg h => by
      rw [Sem.run_bind] at h
      cases hs : s.run P w with
      | ok v w1 => rw [hs] at h; exact hg v w1 h
      | halt x w1 => rw [hs] at h; simp at h
    have np : ∀ w, (runtimePanic (α := Next) .nilDeref).run P w ≠ .ok (.enter f args) w' := fun w => by
      unfold runtimePanic
      exact hb _ _ _ fun p w1 => by simp [goPanic, Sem.run]
    split at h
    any_goals exact np _ h
    · split at h
      · exact np _ h
      · revert h
        refine hb _ _ _ fun p w1 => hb _ _ _ fun b w2 => ?_
        split
        · exact hb _ _ _ fun _ w3 => by simp
        · simp
      · simp at h
    · simp at h
  case pick c a b =>
    simp only [execOp] at h
    rw [Sem.run_bind] at h
    cases hs : (asBool (ρ c)).run P w with
    | ok v w1 => rw [hs] at h; simp at h
    | halt x w1 => rw [hs] at h; simp at h
  all_goals simp only [execOp] at h
  all_goals first | exact v_run h | exact u_run h | (simp at h; done) | skip

theorem calm_of_quiet {o : Oper} {a : Act} {C : World → Prop} {v : Value} {w : World} (hn : noEnter o = true) (h : o.quietAt P a C w v) : calmAt P o a v w := by
  unfold Oper.quietAt at h
  unfold calmAt
  have hne := fun f args w' => noEnter_run (P := P) (ρ := a.eval) (w := w) (w' := w') (f := f) (args := args) hn
  generalize (execOp a.eval o).run P w = r at *
  cases r with
  | ok n w' =>
    cases n <;> simp only [Oper.quietUpon] at h
    case value u => obtain ⟨rfl, rfl⟩ := h; exact .inl rfl
    case skip => obtain ⟨rfl, rfl⟩ := h; exact .inr ⟨rfl, rfl⟩
    case enter f args => exact absurd rfl (hne f args w')
  | halt x w' => simp only [Oper.quietUpon] at h

/-- So many calm operations. 'd': calm in every world. -/
theorem wpC_seg {p : Plan} {Q : Act → World → Prop} {w : World} (d : Bool) (hC : C w) : ∀ (n k : Nat) (l : List Oper) (a : Act),
    ((List.range n).all fun j => !p.L.contains (k + j) && (p.D.contains (k + j) == d)) = true → (l.take n).all noEnter = true →
    wpQuiet P ops (if d then fun _ => True else C) (fun a' => wpC P ops p C Q (k + n) (l.drop n) a' w) (l.take n) a → wpC P ops p C Q k l a w
  | 0, k, l, a, _, _, h => by simpa [wpQuiet] using h
  | n + 1, k, [], a, _, _, h => by simp [wpQuiet, wpC] at h ⊢; exact h
  | n + 1, k, o :: l, a, hB, hn, h => by
    have h0 := List.all_eq_true.1 hB 0 (by simp)
    simp only [Nat.add_zero, Bool.and_eq_true, Bool.not_eq_true', beq_iff_eq] at h0
    simp only [List.take_succ_cons, List.all_cons, Bool.and_eq_true] at hn
    simp only [List.take_succ_cons, wpQuiet, List.drop_succ_cons] at h
    have hB' : ((List.range n).all fun j => !p.L.contains (k + 1 + j) && (p.D.contains (k + 1 + j) == d)) = true := by
      refine List.all_eq_true.2 fun j hj => ?_
      have := List.all_eq_true.1 hB (j + 1) (by simp at hj ⊢; omega)
      rwa [show k + (j + 1) = k + 1 + j by omega] at this
    have next := fun a' (h' : wpQuiet P ops (if d then fun _ => True else C) (fun a' => wpC P ops p C Q (k + (n + 1)) (l.drop n) a' w) (l.take n) a') =>
      wpC_seg d hC n (k + 1) l a' hB' hn.2 (by rw [show k + 1 + n = k + (n + 1) by omega]; exact h')
    have hcls : p.cls C k = (if d then fun _ => True else C) := by
      unfold Plan.cls; rw [h0.2]
    unfold wpC
    simp only [h0.1, Bool.false_eq_true, if_false]
    by_cases hw : Region.wanted o (yielded ops a.tmps) = true
    · simp only [hw, if_true] at h
      obtain ⟨v, h1, h2⟩ := h
      exact ⟨v, .inl ⟨hw, fun w' hw' => calm_of_quiet hn.1 (h1 w' (by rw [← hcls]; exact hw'))⟩, fun _ => hC, next _ h2⟩
    · simp only [hw] at h
      exact ⟨undef, .inr ⟨by simpa using hw, rfl⟩, fun _ => hC, next _ h⟩
/-- The same behind operation m: calm in every world. -/
theorem wpC_segD {p : Plan} {Q : Act → World → Prop} {w : World} : ∀ (n k : Nat) (l : List Oper) (a : Act),
    ((List.range n).all fun j => !p.L.contains (k + j) && p.D.contains (k + j) && decide (p.m ≤ k)) = true → (l.take n).all noEnter = true →
    wpQuiet P ops (fun _ => True) (fun a' => wpC P ops p C Q (k + n) (l.drop n) a' w) (l.take n) a → wpC P ops p C Q k l a w
  | 0, k, l, a, _, _, h => by simpa [wpQuiet] using h
  | n + 1, k, [], a, _, _, h => by simp [wpQuiet, wpC] at h ⊢; exact h
  | n + 1, k, o :: l, a, hB, hn, h => by
    have h0 := List.all_eq_true.1 hB 0 (by simp)
    simp only [Nat.add_zero, Bool.and_eq_true, Bool.not_eq_true', decide_eq_true_eq] at h0
    simp only [List.take_succ_cons, List.all_cons, Bool.and_eq_true] at hn
    simp only [List.take_succ_cons, wpQuiet, List.drop_succ_cons] at h
    have hB' : ((List.range n).all fun j => !p.L.contains (k + 1 + j) && p.D.contains (k + 1 + j) && decide (p.m ≤ k + 1)) = true := by
      refine List.all_eq_true.2 fun j hj => ?_
      have := List.all_eq_true.1 hB (j + 1) (by simp at hj ⊢; omega)
      rw [show k + (j + 1) = k + 1 + j by omega] at this
      simp only [Bool.and_eq_true, Bool.not_eq_true', decide_eq_true_eq] at this ⊢
      exact ⟨this.1, by omega⟩
    have next := fun a' (h' : wpQuiet P ops (fun _ => True) (fun a' => wpC P ops p C Q (k + (n + 1)) (l.drop n) a' w) (l.take n) a') =>
      wpC_segD n (k + 1) l a' hB' hn.2 (by rw [show k + 1 + n = k + (n + 1) by omega]; exact h')
    have hcls : p.cls C k = (fun _ => True) := by
      unfold Plan.cls; rw [if_pos h0.1.2]
    unfold wpC
    simp only [h0.1.1, Bool.false_eq_true, if_false]
    by_cases hw : Region.wanted o (yielded ops a.tmps) = true
    · simp only [hw, if_true] at h
      obtain ⟨v, h1, h2⟩ := h
      exact ⟨v, .inl ⟨hw, fun w' hw' => calm_of_quiet hn.1 (h1 w' trivial)⟩, fun hk => by omega, next _ h2⟩
    · simp only [hw] at h
      exact ⟨undef, .inr ⟨by simpa using hw, rfl⟩, fun hk => by omega, next _ h⟩
/-- An operation that is followed as it stands. -/
theorem wpC_loud {p : Plan} {Q : Act → World → Prop} {w : World} {k : Nat} {o : Oper} {l : List Oper} {a : Act} (hL : p.L.contains k = true) (hw : Region.wanted o (yielded ops a.tmps) = true)
    (h : ∀ K : Act → World → Prop, (∀ a' w', (k < p.m → C w') → wpC P ops p C Q (k + 1) l a' w' → K a' w') → o.wp P a w K QF) : wpC P ops p C Q k (o :: l) a w := by
  unfold wpC loudOp
  simp only [hL, hw, if_true]
  exact h _ fun a' w' h1 h2 => ⟨h1, h2⟩
/-- .. which its guard passes over. -/
theorem wpC_skip {p : Plan} {Q : Act → World → Prop} {w : World} {k : Nat} {o : Oper} {l : List Oper} {a : Act} (hL : p.L.contains k = true) (hw : Region.wanted o (yielded ops a.tmps) = false)
    (hC : k < p.m → C w) (h : wpC P ops p C Q (k + 1) l (a.put o.dst undef) w) : wpC P ops p C Q k (o :: l) a w := by
  unfold wpC loudOp
  simp only [hL, hw, if_true, Bool.false_eq_true, if_false]
  exact ⟨hC, h⟩
/-- .. whose run is known. -/
theorem wpC_value {p : Plan} {Q : Act → World → Prop} {w w' : World} {k : Nat} {o : Oper} {l : List Oper} {a : Act} {v : Value} (hL : p.L.contains k = true) (hw : Region.wanted o (yielded ops a.tmps) = true)
    (hr : (execOp a.eval o).run P w = .ok (.value v) w') (hC : k < p.m → C w') (h : wpC P ops p C Q (k + 1) l (a.put o.dst v) w') : wpC P ops p C Q k (o :: l) a w :=
  wpC_loud hL hw fun K hK => by unfold Oper.wp; rw [hr]; exact hK _ _ hC h
theorem wpC_store {p : Plan} {Q : Act → World → Prop} {w w' : World} {k : Nat} {o : Oper} {l : List Oper} {a : Act} (hL : p.L.contains k = true) (hw : Region.wanted o (yielded ops a.tmps) = true)
    (hr : (execOp a.eval o).run P w = .ok .skip w') (hC : k < p.m → C w') (h : wpC P ops p C Q (k + 1) l (a.put o.dst undef) w') : wpC P ops p C Q k (o :: l) a w :=
  wpC_loud hL hw fun K hK => by unfold Oper.wp; rw [hr]; exact hK _ _ hC h
theorem wpC_nil {p : Plan} {Q : Act → World → Prop} {w : World} {k : Nat} {a : Act} (h : Q a w) : wpC P ops p C Q k [] a w := h
/-- A class of worlds by an index of which nothing is known but the class's facts. -/
theorem classOf (F : World → Prop) {w : World} (hw : F w) : ∃ (X : Type) (f : X → World) (_ : Nonempty X), (∀ x, F (f x)) ∧ ∀ w, F w → ∃ x, w = f x :=
  ⟨{w : World // F w}, fun x => x.1, ⟨w, hw⟩, fun x => x.2, fun w h => ⟨⟨w, h⟩, rfl⟩⟩
end
end Go.Proofs.YtpldbgdhflmjhaaDoor

/- Words that more than one layer needs: the block of a slice, slices that lie as they were, bytes appended. -/
namespace Go.Proofs.YtpldbgdhflmjhaaDoor
set_option linter.unusedVariables false
set_option linter.unusedSimpArgs false
open Go.RowKit
def vblock : Value → Option Nat
  | .slice (some a) _ _ => some a.block
  | _ => none
theorem SliceIs.chg {w : World} {B : Nat} {e : TypeId} {v : Value} {n : Nat} {xs : List Value} (h : SliceIs w B e v n xs) {S : Nat → Prop} {w' : World} (hc : Chg S w w') (hn : ∀ k, vblock v = some k → ¬ S k) : SliceIs w' B e v n xs := by
  refine ⟨h.1, h.2.imp id ?_⟩
  rintro ⟨g, cap, cur, rfl, h2, h3, h4⟩
  exact ⟨g, cap, cur, rfl, h2, h3.keep hc (hn g rfl), h4⟩
theorem SliceIs.block_lt {w : World} {B : Nat} {e : TypeId} {v : Value} {n : Nat} {xs : List Value} (h : SliceIs w B e v n xs) {k : Nat} (hk : vblock v = some k) : B ≤ k ∧ k < w.heap.size := by
  rcases h.2 with ⟨rfl, rfl⟩ | ⟨g, cap, cur, rfl, h2, h3, h4⟩
  · cases hk
  · cases hk; exact ⟨h2, h3.lt⟩
theorem setCell_head {w : World} {r : Nat} {cs : Array Value} {E : TypeId} (h : w.heap[r]? = some (.cells cs E (0, 0))) (i : Nat) (v : Value) : (w.setCell ⟨r, i, none⟩ v).heap[r]? = some (.cells (cs.setIfInBounds i v) E (0, 0)) := by
  rw [setCell_eq_setRow w r i _ _ _ _ h]; exact heap_setRow h _
theorem SliceIs.mono {w : World} {B B' : Nat} {e : TypeId} {v : Value} {n : Nat} {xs : List Value} (h : SliceIs w B e v n xs) (hB : B' ≤ B) : SliceIs w B' e v n xs := by
  refine ⟨h.1, h.2.imp id ?_⟩
  rintro ⟨g, cap, cur, rfl, h2, h3⟩
  exact ⟨g, cap, cur, rfl, Nat.le_trans hB h2, h3⟩
theorem info_u8 : (Tryd.prog.info? 5).map (fun i => (i.zero, i.size, i.bytes)) = some (some (.int .u8 0), 1, 1) := by kernel_rfl
theorem append8 {w : World} {B n : Nat} {v : Value} {xs : List UInt8} (h : SliceIs w B 5 v n (xs.map u8v)) (hB : B ≤ w.heap.size) (x : UInt8) (hn : n + 1 ≤ 1000000000) :
    ∃ v' w', (Builtin.append_ #[40, 40] 40 #[v, .slice (some ⟨w.heap.size, 0, none⟩) 1 1]).run Tryd.prog (w.alloc (.cells #[u8v x] 5)) = .ok v' w' ∧ SliceIs w' B 5 v' (n + 1) ((xs ++ [x]).map u8v) ∧ Below B w w' := by
  obtain ⟨i0, g1, g2, g3, g4⟩ := info_parts info_u8
  have := run_append_one (P := Tryd.prog) (t := 40) (ty := 40) Tryd.underlying40 g1 g2 g3 g4 rfl h hB (u8v x) rfl (by unfold maxLen; omega) (by omega)
  rw [List.map_append]
  exact this
theorem u8v_of (n : Nat) : u8v (UInt8.ofNat n) = .int .u8 ((n : Int) % 256) := by
  simp [u8v]
/-- Append to a slice of an object's own: its row may have been written, or a new one has been made. -/
theorem run_append_own {P : Program} {w : World} {e : TypeId} {v : Value} {n : Nat} {xs : List Value} {t ty : TypeId} {i : TypeInfo} {z : Value} {bytes : Nat} (ht : P.underlying t = some (.slice e)) (hi : P.info? e = some i) (hz : i.zero = some z)
    (hsize : i.size = 1) (hby : i.bytes = bytes) (hzs : z.cells.size = 1) (h : SliceIs w 0 e v n xs)
    (a : Addr) (m c : Nat) (news : List Value) (hm : 0 < m) (hl : news.length = m) (hnews : ∀ j u, news[j]? = some u → w.cell? (a.add j) = some u) (h1 : ∀ u ∈ news, u.oneCell' = true)
    (h63 : n + m ≤ maxLen) (hbytes : (n + m) * bytes ≤ 140737488355328) :
    ∃ v' w', (Builtin.append_ #[t, t] ty #[v, .slice (some a) m c]).run P w = .ok v' w' ∧ SliceIs w' 0 e v' (n + m) (xs ++ news) ∧ Chg (fun k => vblock v = some k) w w' ∧ (vblock v' = vblock v ∨ ∃ k, vblock v' = some k ∧ w.heap.size ≤ k) := by
  have fin : ∀ (g : Option Nat) (olds : List Value) v' w', g = vblock v → olds = xs → Appended w e 1 g olds news (n + m) v' w' → SliceIs w' 0 e v' (n + m) (xs ++ news) ∧ Chg (fun k => vblock v = some k) w w' ∧ (vblock v' = vblock v ∨ ∃ k, vblock v' = some k ∧ w.heap.size ≤ k) := by
    rintro g olds v' w' rfl rfl ⟨g', cap', cur', rfl, q1, q2, q3, q4, q5, q6, q7⟩
    refine ⟨⟨by rw [List.length_append, h.1, hl], .inr ⟨g', cap', cur', rfl, Nat.zero_le _, q1, by omega, q3, q4, by rw [← q5, Nat.mul_one]⟩⟩, q7.mono fun k hk _ => hk.symm, q6.imp id fun h => ⟨g', rfl, h⟩⟩
  rcases h.2 with ⟨rfl, rfl⟩ | ⟨g, cap, cur, rfl, h2, h3, h4, h5, h6, h7⟩
  · obtain ⟨v', w', hr, hp⟩ := run_append_row_nil (P := P) w t ty e i z 1 bytes ht hi hz hsize hby hzs a m c news hm (by omega) hnews (by omega) (by simpa using hbytes)
    have hx : [] = xs := (List.eq_nil_of_length_eq_zero h.1).symm
    refine ⟨v', w', hr, fin none [] v' w' rfl hx ?_⟩
    rw [Nat.zero_add]; exact hp
  · obtain ⟨v', w', hr, hp⟩ := run_append_row (P := P) w t ty e i z 1 bytes ht hi hz hsize hby hzs g n cap cur h3 (by omega) h5 h6 a m c news (by omega) hnews h1 h63 hbytes
    exact ⟨v', w', hr, fin (some g) _ v' w' rfl (by rw [Nat.mul_one]; exact h7) hp⟩
theorem run_append_own1 {P : Program} {w : World} {e : TypeId} {v : Value} {n : Nat} {xs : List Value} {t ty : TypeId} {i : TypeInfo} {z : Value} {bytes : Nat} (ht : P.underlying t = some (.slice e)) (hi : P.info? e = some i) (hz : i.zero = some z)
    (hsize : i.size = 1) (hby : i.bytes = bytes) (hzs : z.cells.size = 1) (h : SliceIs w 0 e v n xs) (u : Value) (hu : u.oneCell' = true) (h63 : n + 1 ≤ maxLen) (hbytes : (n + 1) * bytes ≤ 140737488355328) :
    ∃ v' w', (Builtin.append_ #[t, t] ty #[v, .slice (some ⟨w.heap.size, 0, none⟩) 1 1]).run P (w.alloc (.cells #[u] e)) = .ok v' w' ∧ SliceIs w' 0 e v' (n + 1) (xs ++ [u]) ∧ Chg (fun k => vblock v = some k) w w' ∧ (vblock v' = vblock v ∨ ∃ k, vblock v' = some k ∧ w.heap.size ≤ k) := by
  have hb : Below w.heap.size w (w.alloc (.cells #[u] e)) := (Below.refl _ _).alloc (Nat.le_refl _) _
  obtain ⟨v', w', hr, h2, h3, h4⟩ := run_append_own (P := P) (ty := ty) ht hi hz hsize hby hzs (h.below hb) ⟨w.heap.size, 0, none⟩ 1 1 [u] (by omega) rfl (fun j x hx => by
    have hj : j = 0 := by have := (List.getElem?_eq_some_iff.1 hx).1; simpa using this
    subst hj
    rw [Addr.add_lit]
    refine cell_in (heap_new w _) ?_
    simpa using hx) (by simpa using hu) h63 hbytes
  exact ⟨v', w', hr, h2, (Chg.alloc (fun k => vblock v = some k) w _).trans h3 fun k hk _ => hk, h4.imp id fun ⟨k, e, hk⟩ => ⟨k, e, by simp at hk; omega⟩⟩
/-- The blocks behind a step: the old ones or new ones. -/
def Fresh (w : World) (F F' : Nat → Prop) : Prop := ∀ k, F' k → F k ∨ w.heap.size ≤ k
end Go.Proofs.YtpldbgdhflmjhaaDoor

/-
  DERIVED: THE SHELF's CONTRACTS AT THIS DUMP, IN PLAIN WORDS (tools/lay-plain.mjs out of 'TrydShelf.lean', which tools/lay-shelf.mjs wrote): THE SAME DECLARATIONS UNDER THE SAME NAMES: 'import', 'namespace', 'open', 'def', 'theorem' AND NOTHING ELSE: no command of the shelf's: FOR A HAND-IN. Each laying: the table of numbers ('.._ren') and one theorem, a field a fact of the dump's own or the kernel's comparison; each contract: ONE APPLICATION.
-/
namespace Go.Proofs
open Go.Shelf
def Tryd.lays169_ren : Go.Shelf.Ren := ⟨fun | 169 => 30 | n => n, fun | 70 => 59 | 9 => 9 | 0 => 0 | 72 => 61 | 37 => 40 | 127 => 89 | 3 => 3 | 5 => 5 | n => n, fun | n => n⟩
theorem Tryd.lays169 : Go.Proofs.Lays.n169 Tryd.prog Tryd.lays169_ren := {
  mixed := by kernel_rfl
  f169 := Tryd.func30.trans (congrArg some (by kernel_rfl))
  t0 := Tryd.underlying0
  a0 := Tryd.isAgg0
  z0 := Tryd.sizeOf0
  v0 := Tryd.zeroValue0
  t3 := Tryd.underlying3
  a3 := Tryd.isAgg3
  z3 := Tryd.sizeOf3
  v3 := Tryd.zeroValue3
  t9 := Tryd.underlying9
  a9 := Tryd.isAgg9
  z9 := Tryd.sizeOf9
  v9 := Tryd.zeroValue9
  t37 := Tryd.underlying40
  a37 := Tryd.isAgg40
  z37 := Tryd.sizeOf40
  v37 := Tryd.zeroValue40
  t70 := Tryd.underlying59
  a70 := Tryd.isAgg59
  z70 := Tryd.sizeOf59
  v70 := Tryd.zeroValue59
  t72 := Tryd.underlying61
  a72 := Tryd.isAgg61
  z72 := Tryd.sizeOf61
  v72 := Tryd.zeroValue61
  t127 := Tryd.underlying89
  a127 := Tryd.isAgg89
  z127 := Tryd.sizeOf89
  v127 := Tryd.zeroValue89 }
theorem Tryd.Builder_Extra_169 : Builder.Extra Tryd.prog Tryd.lays169_ren := {
  sizeBuilder := by kernel_rfl
  liesBuilder := by kernel_rfl
  t5 := Tryd.underlying5
  a5 := Tryd.isAgg5
  z5 := Tryd.sizeOf5
  v5 := Tryd.zeroValue5
  infoByte := by kernel_rfl
  cellsByte := by kernel_rfl
  sizeByte := by kernel_rfl
  neB5 := by decide }
open Go.RowKit in
/-- (*strings.Builder).String: "String returns the accumulated string.": WHATEVER THE BUILDER HOLDS. (LAID: no walk: one application.) -/
theorem Tryd.Builder_String_any (B b : Nat) (l : List UInt8) (w : World) (h : Lib.IsBuilder 61 5 B b (Lib.byteCells l) w) (hBw : B ≤ w.heap.size) :
    Calls Tryd.prog 30 #[.pointer (some ⟨b, 0, none⟩)] w fun e w' => e = .returned (.string ⟨l.toArray⟩) ∧ Below B w w' := Any.Builder_String_any Tryd.lays169 Tryd.Builder_Extra_169 B b l w h hBw
def Tryd.lays119_ren : Go.Shelf.Ren := ⟨fun | 119 => 84 | n => n, fun | 21 => 21 | 4 => 4 | n => n, fun | n => n⟩
theorem Tryd.lays119 : Go.Proofs.Lays.n119 Tryd.prog Tryd.lays119_ren := {
  mixed := by kernel_rfl
  f119 := Tryd.func84.trans (congrArg some (by kernel_rfl))
  t4 := Tryd.underlying4
  a4 := Tryd.isAgg4
  z4 := Tryd.sizeOf4
  v4 := Tryd.zeroValue4
  t21 := Tryd.underlying21
  a21 := Tryd.isAgg21
  z21 := Tryd.sizeOf21
  v21 := Tryd.zeroValue21 }
/-- utf8.ValidRune: "ValidRune reports whether r can be legally encoded as UTF-8. Code points that are out of range or a surrogate half are illegal.": IT RETURNS 'Lib.validRune r'; the world is as it was. (LAID: no walk: one application.) -/
theorem Tryd.utf8_ValidRune (r : Int) (w : World) :
    Calls Tryd.prog 84 #[.int .i32 r] w fun e w' => e = .returned (.bool (Lib.validRune r)) ∧ w' = w := Any.utf8_ValidRune Tryd.lays119 r w
def Tryd.lays137_ren : Go.Shelf.Ren := ⟨fun | 137 => 69 | 217 => 81 | 266 => 92 | n => n, fun | 9 => 9 | 5 => 5 | 3 => 3 | n => n, fun | n => n⟩
theorem Tryd.lays137 : Go.Proofs.Lays.n137 Tryd.prog Tryd.lays137_ren := {
  mixed := by kernel_rfl
  f137 := Tryd.func69.trans (congrArg some (by kernel_rfl))
  f217 := Tryd.func81.trans (congrArg some (by kernel_rfl))
  f266 := Tryd.func92.trans (congrArg some (by kernel_rfl))
  t3 := Tryd.underlying3
  a3 := Tryd.isAgg3
  z3 := Tryd.sizeOf3
  v3 := Tryd.zeroValue3
  t5 := Tryd.underlying5
  a5 := Tryd.isAgg5
  z5 := Tryd.sizeOf5
  v5 := Tryd.zeroValue5
  t9 := Tryd.underlying9
  a9 := Tryd.isAgg9
  z9 := Tryd.sizeOf9
  v9 := Tryd.zeroValue9 }
open Go.RowKit in
/-- strings.IndexByte: "IndexByte returns the index of the first instance of c in s, or -1 if c is not present in s.": IT RETURNS 'Lib.indexByte s c'; the world is as it was. (LAID: no walk: one application.) -/
theorem Tryd.strings_IndexByte (s : ByteArray) (c : Int) (w : World) :
    Calls Tryd.prog 69 #[.string s, .int .u8 c] w fun e w' => e = .returned (.int .i64 (Lib.indexByte s.data.toList c.toNat.toUInt8)) ∧ w' = w := Any.strings_IndexByte Tryd.lays137 s c w
def Tryd.laysM173_ren : Go.Shelf.Ren := ⟨fun | 173 => 65 | 246 => 77 | 283 => 87 | 284 => 88 | 285 => 89 | 286 => 90 | 129 => 96 | 317 => 95 | 318 => 97 | 319 => 98 | 320 => 99 | 337 => 106 | 338 => 107 | n => n, fun | 2 => 2 | 3 => 3 | 9 => 9 | 4 => 4 | 171 => 124 | 0 => 0 | 53 => 101 | 37 => 40 | 5 => 5 | 173 => 127 | 212 => 134 | 51 => 49 | 20 => 20 | 213 => 135 | 46 => 122 | 232 => 148 | 233 => 149 | n => n, fun | 17 => 1 | 18 => 4 | 19 => 5 | n => n⟩
theorem Tryd.laysM173 : Go.Proofs.LaysM.n173 Tryd.prog Tryd.laysM173_ren := {
  mixed := by kernel_rfl
  f129 := Tryd.func96.trans (congrArg some (by kernel_rfl))
  f173 := Tryd.func65.trans (congrArg some (by kernel_rfl))
  f246 := Tryd.func77.trans (congrArg some (by kernel_rfl))
  f283 := Tryd.func87.trans (congrArg some (by kernel_rfl))
  f284 := Tryd.func88.trans (congrArg some (by kernel_rfl))
  f285 := Tryd.func89.trans (congrArg some (by kernel_rfl))
  f286 := Tryd.func90.trans (congrArg some (by kernel_rfl))
  f317 := Tryd.func95.trans (congrArg some (by kernel_rfl))
  f318 := Tryd.func97.trans (congrArg some (by kernel_rfl))
  f319 := Tryd.func98.trans (congrArg some (by kernel_rfl))
  f320 := Tryd.func99.trans (congrArg some (by kernel_rfl))
  f337 := Tryd.func106.trans (congrArg some (by kernel_rfl))
  f338 := Tryd.func107.trans (congrArg some (by kernel_rfl))
  t0 := Tryd.underlying0
  a0 := Tryd.isAgg0
  z0 := Tryd.sizeOf0
  v0 := Tryd.zeroValue0
  t2 := Tryd.underlying2
  a2 := Tryd.isAgg2
  z2 := Tryd.sizeOf2
  v2 := Tryd.zeroValue2
  t3 := Tryd.underlying3
  a3 := Tryd.isAgg3
  z3 := Tryd.sizeOf3
  v3 := Tryd.zeroValue3
  t4 := Tryd.underlying4
  a4 := Tryd.isAgg4
  z4 := Tryd.sizeOf4
  v4 := Tryd.zeroValue4
  t5 := Tryd.underlying5
  a5 := Tryd.isAgg5
  z5 := Tryd.sizeOf5
  v5 := Tryd.zeroValue5
  t9 := Tryd.underlying9
  a9 := Tryd.isAgg9
  z9 := Tryd.sizeOf9
  v9 := Tryd.zeroValue9
  t20 := Tryd.underlying20
  a20 := Tryd.isAgg20
  z20 := Tryd.sizeOf20
  v20 := Tryd.zeroValue20
  t37 := Tryd.underlying40
  a37 := Tryd.isAgg40
  z37 := Tryd.sizeOf40
  v37 := Tryd.zeroValue40
  t46 := Tryd.underlying122
  a46 := Tryd.isAgg122
  z46 := Tryd.sizeOf122
  v46 := Tryd.zeroValue122
  t51 := Tryd.underlying49
  a51 := Tryd.isAgg49
  z51 := Tryd.sizeOf49
  v51 := Tryd.zeroValue49
  t53 := Tryd.underlying101
  a53 := Tryd.isAgg101
  z53 := Tryd.sizeOf101
  v53 := Tryd.zeroValue101
  t171 := Tryd.underlying124
  a171 := Tryd.isAgg124
  z171 := Tryd.sizeOf124
  v171 := Tryd.zeroValue124
  t173 := Tryd.underlying127
  a173 := Tryd.isAgg127
  z173 := Tryd.sizeOf127
  v173 := Tryd.zeroValue127
  t212 := Tryd.underlying134
  a212 := Tryd.isAgg134
  z212 := Tryd.sizeOf134
  v212 := Tryd.zeroValue134
  t213 := Tryd.underlying135
  a213 := Tryd.isAgg135
  z213 := Tryd.sizeOf135
  t232 := Tryd.underlying148
  a232 := Tryd.isAgg148
  z232 := Tryd.sizeOf148
  v232 := Tryd.zeroValue148
  t233 := Tryd.underlying149
  a233 := Tryd.isAgg149
  z233 := Tryd.sizeOf149
  v233 := Tryd.zeroValue149
  g17 := by kernel_rfl
  g18 := by kernel_rfl
  g19 := by kernel_rfl
  i0 := by kernel_rfl
  i2 := by kernel_rfl
  i3 := by kernel_rfl
  i4 := by kernel_rfl
  i5 := by kernel_rfl
  i9 := by kernel_rfl
  i20 := by kernel_rfl
  i37 := by kernel_rfl
  i46 := by kernel_rfl
  i51 := by kernel_rfl
  i53 := by kernel_rfl
  i171 := by kernel_rfl
  i173 := by kernel_rfl
  i212 := by kernel_rfl
  i232 := by kernel_rfl
  i233 := by kernel_rfl
  m17 := by kernel_rfl
  m18 := by kernel_rfl
  m19 := by kernel_rfl }
open Go.RowKit Go.Sort Go.Lib in
/-- strconv.FormatInt: "FormatInt returns the string representation of i in the given base": AT BASE 10: i's decimal numeral, for every int64. (LAID: no walk: one application.) -/
theorem Tryd.strconv_FormatInt_10 (n : Int) (h0 : -9223372036854775808 ≤ n) (h1 : n ≤ 9223372036854775807) (w : World) (htab : Lib.TabIs Tryd.prog w "internal/strconv.uint64pow10" .u64 Lib.pow10Tab) :
    Calls Tryd.prog 65 #[.int .i64 n, .int .i64 10] w fun e w' => e = .returned (.string ⟨(Lib.itoa n).toArray⟩) ∧ ∃ k os, w' = grow (w.drewN k) os := Any.strconv_FormatInt_10 Tryd.laysM173 n h0 h1 w htab
def Tryd.laysM316_ren : Go.Shelf.Ren := ⟨fun | 316 => 82 | n => n, fun | 9 => 9 | 3 => 3 | 4 => 4 | 37 => 40 | 0 => 0 | 127 => 89 | 5 => 5 | n => n, fun | n => n⟩
theorem Tryd.laysM316 : Go.Proofs.LaysM.n316 Tryd.prog Tryd.laysM316_ren := {
  mixed := by kernel_rfl
  f316 := Tryd.func82.trans (congrArg some (by kernel_rfl))
  t0 := Tryd.underlying0
  a0 := Tryd.isAgg0
  z0 := Tryd.sizeOf0
  v0 := Tryd.zeroValue0
  t3 := Tryd.underlying3
  a3 := Tryd.isAgg3
  z3 := Tryd.sizeOf3
  v3 := Tryd.zeroValue3
  t4 := Tryd.underlying4
  a4 := Tryd.isAgg4
  z4 := Tryd.sizeOf4
  v4 := Tryd.zeroValue4
  t9 := Tryd.underlying9
  a9 := Tryd.isAgg9
  z9 := Tryd.sizeOf9
  v9 := Tryd.zeroValue9
  t37 := Tryd.underlying40
  a37 := Tryd.isAgg40
  z37 := Tryd.sizeOf40
  v37 := Tryd.zeroValue40
  t127 := Tryd.underlying89
  a127 := Tryd.isAgg89
  z127 := Tryd.sizeOf89
  v127 := Tryd.zeroValue89
  t5 := Tryd.underlying5
  a5 := Tryd.isAgg5
  z5 := Tryd.sizeOf5
  v5 := Tryd.zeroValue5
  i0 := by kernel_rfl
  i3 := by kernel_rfl
  i4 := by kernel_rfl
  i5 := by kernel_rfl
  i9 := by kernel_rfl
  i37 := by kernel_rfl
  i127 := by kernel_rfl }
open Go.RowKit in
/-- internal/stringslite.Clone (what strings.Clone calls): "Clone returns a fresh copy of s.": THE SAME BYTES. Of what was there nothing has turned (a new row is laid, and frozen, where s is not empty). (LAID: no walk: one application.) -/
theorem Tryd.stringslite_Clone (s : ByteArray) (w : World) (hlim : s.size ≤ 281474976710656) :
    Calls Tryd.prog 82 #[.string s] w fun e w' => e = .returned (.string s) ∧ Below w.heap.size w w' := Any.stringslite_Clone Tryd.laysM316 s w hlim
def Tryd.laysC174_ren : Go.Shelf.Ren := ⟨fun | 174 => 83 | 247 => 93 | 245 => 94 | 287 => 101 | 279 => 102 | 280 => 103 | 281 => 104 | 282 => 105 | 321 => 108 | 322 => 109 | 316 => 82 | 171 => 111 | 205 => 110 | 243 => 112 | 246 => 77 | 283 => 87 | 284 => 88 | 285 => 89 | 286 => 90 | 129 => 96 | 317 => 95 | 318 => 97 | 319 => 98 | 320 => 99 | 337 => 106 | 338 => 107 | n => n, fun | 9 => 9 | 3 => 3 | 2 => 2 | 75 => 84 | 85 => 119 | 4 => 4 | 167 => 137 | 5 => 5 | 53 => 101 | 175 => 138 | 46 => 122 | 168 => 140 | 37 => 40 | 0 => 0 | 210 => 146 | 21 => 21 | 127 => 89 | 145 => 152 | 143 => 150 | 171 => 124 | 173 => 127 | 212 => 134 | 51 => 49 | 20 => 20 | 213 => 135 | 232 => 148 | 233 => 149 | 80 => 63 | n => n, fun | 15 => 2 | 16 => 3 | 17 => 1 | 18 => 4 | 19 => 5 | n => n⟩
theorem Tryd.laysC174 : Go.Proofs.LaysC.n174 Tryd.prog Tryd.laysC174_ren := {
  mixed := by kernel_rfl
  f129 := Tryd.func96.trans (congrArg some (by kernel_rfl))
  f171 := Tryd.func111.trans (congrArg some (by kernel_rfl))
  f174 := Tryd.func83.trans (congrArg some (by kernel_rfl))
  f205 := Tryd.func110.trans (congrArg some (by kernel_rfl))
  f243 := Tryd.func112.trans (congrArg some (by kernel_rfl))
  f245 := Tryd.func94.trans (congrArg some (by kernel_rfl))
  f246 := Tryd.func77.trans (congrArg some (by kernel_rfl))
  f247 := Tryd.func93.trans (congrArg some (by kernel_rfl))
  f279 := Tryd.func102.trans (congrArg some (by kernel_rfl))
  f280 := Tryd.func103.trans (congrArg some (by kernel_rfl))
  f281 := Tryd.func104.trans (congrArg some (by kernel_rfl))
  f282 := Tryd.func105.trans (congrArg some (by kernel_rfl))
  f283 := Tryd.func87.trans (congrArg some (by kernel_rfl))
  f284 := Tryd.func88.trans (congrArg some (by kernel_rfl))
  f285 := Tryd.func89.trans (congrArg some (by kernel_rfl))
  f286 := Tryd.func90.trans (congrArg some (by kernel_rfl))
  f287 := Tryd.func101.trans (congrArg some (by kernel_rfl))
  f316 := Tryd.func82.trans (congrArg some (by kernel_rfl))
  f317 := Tryd.func95.trans (congrArg some (by kernel_rfl))
  f318 := Tryd.func97.trans (congrArg some (by kernel_rfl))
  f319 := Tryd.func98.trans (congrArg some (by kernel_rfl))
  f320 := Tryd.func99.trans (congrArg some (by kernel_rfl))
  f321 := Tryd.func108.trans (congrArg some (by kernel_rfl))
  f322 := Tryd.func109.trans (congrArg some (by kernel_rfl))
  f337 := Tryd.func106.trans (congrArg some (by kernel_rfl))
  f338 := Tryd.func107.trans (congrArg some (by kernel_rfl))
  t0 := Tryd.underlying0
  a0 := Tryd.isAgg0
  z0 := Tryd.sizeOf0
  v0 := Tryd.zeroValue0
  t2 := Tryd.underlying2
  a2 := Tryd.isAgg2
  z2 := Tryd.sizeOf2
  v2 := Tryd.zeroValue2
  t3 := Tryd.underlying3
  a3 := Tryd.isAgg3
  z3 := Tryd.sizeOf3
  v3 := Tryd.zeroValue3
  t4 := Tryd.underlying4
  a4 := Tryd.isAgg4
  z4 := Tryd.sizeOf4
  v4 := Tryd.zeroValue4
  t5 := Tryd.underlying5
  a5 := Tryd.isAgg5
  z5 := Tryd.sizeOf5
  v5 := Tryd.zeroValue5
  t9 := Tryd.underlying9
  a9 := Tryd.isAgg9
  z9 := Tryd.sizeOf9
  v9 := Tryd.zeroValue9
  t20 := Tryd.underlying20
  a20 := Tryd.isAgg20
  z20 := Tryd.sizeOf20
  v20 := Tryd.zeroValue20
  t21 := Tryd.underlying21
  a21 := Tryd.isAgg21
  z21 := Tryd.sizeOf21
  v21 := Tryd.zeroValue21
  t37 := Tryd.underlying40
  a37 := Tryd.isAgg40
  z37 := Tryd.sizeOf40
  v37 := Tryd.zeroValue40
  t46 := Tryd.underlying122
  a46 := Tryd.isAgg122
  z46 := Tryd.sizeOf122
  v46 := Tryd.zeroValue122
  t51 := Tryd.underlying49
  a51 := Tryd.isAgg49
  z51 := Tryd.sizeOf49
  v51 := Tryd.zeroValue49
  t53 := Tryd.underlying101
  a53 := Tryd.isAgg101
  z53 := Tryd.sizeOf101
  v53 := Tryd.zeroValue101
  t75 := Tryd.underlying84
  a75 := Tryd.isAgg84
  z75 := Tryd.sizeOf84
  v75 := Tryd.zeroValue84
  t85 := Tryd.underlying119
  a85 := Tryd.isAgg119
  z85 := Tryd.sizeOf119
  v85 := Tryd.zeroValue119
  t127 := Tryd.underlying89
  a127 := Tryd.isAgg89
  z127 := Tryd.sizeOf89
  v127 := Tryd.zeroValue89
  t143 := Tryd.underlying150
  a143 := Tryd.isAgg150
  z143 := Tryd.sizeOf150
  v143 := Tryd.zeroValue150
  t145 := Tryd.underlying152
  a145 := Tryd.isAgg152
  z145 := Tryd.sizeOf152
  v145 := Tryd.zeroValue152
  t167 := Tryd.underlying137
  a167 := Tryd.isAgg137
  z167 := Tryd.sizeOf137
  v167 := Tryd.zeroValue137
  t168 := Tryd.underlying140
  a168 := Tryd.isAgg140
  z168 := Tryd.sizeOf140
  v168 := Tryd.zeroValue140
  t171 := Tryd.underlying124
  a171 := Tryd.isAgg124
  z171 := Tryd.sizeOf124
  v171 := Tryd.zeroValue124
  t173 := Tryd.underlying127
  a173 := Tryd.isAgg127
  z173 := Tryd.sizeOf127
  v173 := Tryd.zeroValue127
  t175 := Tryd.underlying138
  a175 := Tryd.isAgg138
  z175 := Tryd.sizeOf138
  v175 := Tryd.zeroValue138
  t210 := Tryd.underlying146
  a210 := Tryd.isAgg146
  z210 := Tryd.sizeOf146
  v210 := Tryd.zeroValue146
  t212 := Tryd.underlying134
  a212 := Tryd.isAgg134
  z212 := Tryd.sizeOf134
  v212 := Tryd.zeroValue134
  t213 := Tryd.underlying135
  a213 := Tryd.isAgg135
  z213 := Tryd.sizeOf135
  t232 := Tryd.underlying148
  a232 := Tryd.isAgg148
  z232 := Tryd.sizeOf148
  v232 := Tryd.zeroValue148
  t233 := Tryd.underlying149
  a233 := Tryd.isAgg149
  z233 := Tryd.sizeOf149
  v233 := Tryd.zeroValue149
  g15 := by kernel_rfl
  g16 := by kernel_rfl
  g17 := by kernel_rfl
  g18 := by kernel_rfl
  g19 := by kernel_rfl
  t80 := Tryd.underlying63
  a80 := Tryd.isAgg63
  z80 := Tryd.sizeOf63
  v80 := Tryd.zeroValue63
  i0 := by kernel_rfl
  i2 := by kernel_rfl
  i3 := by kernel_rfl
  i4 := by kernel_rfl
  i5 := by kernel_rfl
  i9 := by kernel_rfl
  i20 := by kernel_rfl
  i21 := by kernel_rfl
  i37 := by kernel_rfl
  i46 := by kernel_rfl
  i51 := by kernel_rfl
  i53 := by kernel_rfl
  i75 := by kernel_rfl
  i80 := by kernel_rfl
  i85 := by kernel_rfl
  i127 := by kernel_rfl
  i143 := by kernel_rfl
  i145 := by kernel_rfl
  i167 := by kernel_rfl
  i168 := by kernel_rfl
  i171 := by kernel_rfl
  i173 := by kernel_rfl
  i175 := by kernel_rfl
  i210 := by kernel_rfl
  i212 := by kernel_rfl
  i232 := by kernel_rfl
  i233 := by kernel_rfl
  m15 := by kernel_rfl
  m16 := by kernel_rfl
  m17 := by kernel_rfl
  m18 := by kernel_rfl
  m19 := by kernel_rfl
  c0 := by kernel_rfl
  c2 := by kernel_rfl
  c3 := by kernel_rfl
  c4 := by kernel_rfl
  c5 := by kernel_rfl
  c9 := by kernel_rfl
  c20 := by kernel_rfl
  c21 := by kernel_rfl
  c37 := by kernel_rfl
  c46 := by kernel_rfl
  c51 := by kernel_rfl
  c53 := by kernel_rfl
  c75 := by kernel_rfl
  c80 := by kernel_rfl
  c85 := by kernel_rfl
  c127 := by kernel_rfl
  c143 := by kernel_rfl
  c145 := by kernel_rfl
  c167 := by kernel_rfl
  c168 := by kernel_rfl
  c171 := by kernel_rfl
  c173 := by kernel_rfl
  c175 := by kernel_rfl
  c210 := by kernel_rfl
  c212 := by kernel_rfl
  c213 := by kernel_rfl
  c232 := by kernel_rfl
  c233 := by kernel_rfl }
open Go.RowKit in
/-- strconv.ParseInt(s, 10, 64), AT EVERY STRING THAT SPELLS AN int64 ('Lib.parseIntB 64 s.data.toList = .ok v'): v, AND NO ERROR. (LAID: no walk: one application.) -/
theorem Tryd.strconv_ParseInt_10_at64_ok (s : ByteArray) (hmax : s.size ≤ 9223372036854775806) (v : Int) (h : Lib.parseIntB 64 s.data.toList = .ok v) (w : World) :
    Calls Tryd.prog 83 #[.string s, .int .i64 10, .int .i64 64] w fun e w' => e = .returned (.tuple #[.int .i64 v, .nilIface]) ∧ (w' = w ∨ ∃ t, w' = Lib.bytesWorld w 5 t) := Any.strconv_ParseInt_10_at64_ok Tryd.laysC174 s hmax v h w
open Go.RowKit in
theorem Tryd.strconv_ParseInt_10_at64_syntax_var (s : ByteArray) (hlim : s.size ≤ 281474976710656) (h : Lib.parseIntB 64 s.data.toList = Lib.parseIntB 64 []) (tp : TypeId) (p : Value) (w : World) (hvar : w.var? Tryd.prog "strconv.ErrSyntax" = some #[.iface tp p]) :
    Calls Tryd.prog 83 #[.string s, .int .i64 10, .int .i64 64] w fun e w' => ∃ N, e = .returned (.tuple #[.int .i64 (0), .iface 140 (.pointer (some ⟨N, 0, none⟩))]) ∧ w.heap.size ≤ N ∧ w'.heap[N]? = some (.cells #[.string ⟨#[80, 97, 114, 115, 101, 73, 110, 116]⟩, .string s, .iface tp p] 146 (0, 0)) ∧ Below w.heap.size w w' := Any.strconv_ParseInt_10_at64_syntax_var Tryd.laysC174 s hlim h tp p w hvar
open Go.RowKit in
theorem Tryd.strconv_ParseInt_10_at64_range_var (s : ByteArray) (hlim : s.size ≤ 281474976710656) (h : Lib.parseIntB 64 s.data.toList = .range) (tp : TypeId) (p : Value) (w : World) (hvar : w.var? Tryd.prog "strconv.ErrRange" = some #[.iface tp p]) :
    Calls Tryd.prog 83 #[.string s, .int .i64 10, .int .i64 64] w fun e w' => ∃ N, e = .returned (.tuple #[.int .i64 (Lib.intSat 64 s.data.toList), .iface 140 (.pointer (some ⟨N, 0, none⟩))]) ∧ w.heap.size ≤ N ∧ w'.heap[N]? = some (.cells #[.string ⟨#[80, 97, 114, 115, 101, 73, 110, 116]⟩, .string s, .iface tp p] 146 (0, 0)) ∧ Below w.heap.size w w' := Any.strconv_ParseInt_10_at64_range_var Tryd.laysC174 s hlim h tp p w hvar
def Tryd.lays217_ren : Go.Shelf.Ren := ⟨fun | 217 => 81 | 266 => 92 | n => n, fun | 9 => 9 | 5 => 5 | 3 => 3 | n => n, fun | n => n⟩
theorem Tryd.lays217 : Go.Proofs.Lays.n217 Tryd.prog Tryd.lays217_ren := {
  mixed := by kernel_rfl
  f217 := Tryd.func81.trans (congrArg some (by kernel_rfl))
  f266 := Tryd.func92.trans (congrArg some (by kernel_rfl))
  t3 := Tryd.underlying3
  a3 := Tryd.isAgg3
  z3 := Tryd.sizeOf3
  v3 := Tryd.zeroValue3
  t5 := Tryd.underlying5
  a5 := Tryd.isAgg5
  z5 := Tryd.sizeOf5
  v5 := Tryd.zeroValue5
  t9 := Tryd.underlying9
  a9 := Tryd.isAgg9
  z9 := Tryd.sizeOf9
  v9 := Tryd.zeroValue9 }
open Go.RowKit Go.Lib in
/-- internal/stringslite.IndexByte (what strings.IndexByte calls): IT RETURNS 'Lib.indexByte s c'; the world is as it was. (LAID: no walk: one application.) -/
theorem Tryd.stringslite_IndexByte (s : ByteArray) (c : Int) (w : World) :
    Calls Tryd.prog 81 #[.string s, .int .u8 c] w fun e w' => e = .returned (.int .i64 (Lib.indexByte s.data.toList c.toNat.toUInt8)) ∧ w' = w := Any.stringslite_IndexByte Tryd.lays217 s c w
def Tryd.lays152_ren : Go.Shelf.Ren := ⟨fun | 152 => 72 | 137 => 69 | 119 => 84 | 224 => 85 | 225 => 86 | 217 => 81 | 266 => 92 | n => n, fun | 9 => 9 | 21 => 21 | 3 => 3 | 4 => 4 | 5 => 5 | 0 => 0 | 46 => 122 | n => n, fun | n => n⟩
theorem Tryd.lays152 : Go.Proofs.Lays.n152 Tryd.prog Tryd.lays152_ren := {
  mixed := by kernel_rfl
  f119 := Tryd.func84.trans (congrArg some (by kernel_rfl))
  f137 := Tryd.func69.trans (congrArg some (by kernel_rfl))
  f152 := Tryd.func72.trans (congrArg some (by kernel_rfl))
  f217 := Tryd.func81.trans (congrArg some (by kernel_rfl))
  f224 := Tryd.func85.trans (congrArg some (by kernel_rfl))
  f225 := Tryd.func86.trans (congrArg some (by kernel_rfl))
  f266 := Tryd.func92.trans (congrArg some (by kernel_rfl))
  t0 := Tryd.underlying0
  a0 := Tryd.isAgg0
  z0 := Tryd.sizeOf0
  v0 := Tryd.zeroValue0
  t3 := Tryd.underlying3
  a3 := Tryd.isAgg3
  z3 := Tryd.sizeOf3
  v3 := Tryd.zeroValue3
  t4 := Tryd.underlying4
  a4 := Tryd.isAgg4
  z4 := Tryd.sizeOf4
  v4 := Tryd.zeroValue4
  t5 := Tryd.underlying5
  a5 := Tryd.isAgg5
  z5 := Tryd.sizeOf5
  v5 := Tryd.zeroValue5
  t9 := Tryd.underlying9
  a9 := Tryd.isAgg9
  z9 := Tryd.sizeOf9
  v9 := Tryd.zeroValue9
  t21 := Tryd.underlying21
  a21 := Tryd.isAgg21
  z21 := Tryd.sizeOf21
  v21 := Tryd.zeroValue21
  t46 := Tryd.underlying122
  a46 := Tryd.isAgg122
  z46 := Tryd.sizeOf122
  v46 := Tryd.zeroValue122 }
open Go.RowKit Go.Lib in
theorem Tryd.strings_IndexRune_ascii (s : ByteArray) (r : Int) (w : World) (h0 : 0 ≤ r) (h1 : r < 128) :
    Calls Tryd.prog 72 #[.string s, .int .i32 r] w fun e w' => e = .returned (.int .i64 (Lib.indexByte s.data.toList r.toNat.toUInt8)) ∧ w' = w := Any.strings_IndexRune_ascii Tryd.lays152 s r w h0 h1
def Tryd.lays226_ren : Go.Shelf.Ren := ⟨fun | 226 => 73 | n => n, fun | 3 => 3 | 4 => 4 | n => n, fun | n => n⟩
theorem Tryd.lays226 : Go.Proofs.Lays.n226 Tryd.prog Tryd.lays226_ren := {
  mixed := by kernel_rfl
  f226 := Tryd.func73.trans (congrArg some (by kernel_rfl))
  t3 := Tryd.underlying3
  a3 := Tryd.isAgg3
  z3 := Tryd.sizeOf3
  v3 := Tryd.zeroValue3
  t4 := Tryd.underlying4
  a4 := Tryd.isAgg4
  z4 := Tryd.sizeOf4
  v4 := Tryd.zeroValue4 }
open Go.RowKit Go.Lib in
theorem Tryd.strings_shouldUseASCIISet (n : Int) (w : World) :
    Calls Tryd.prog 73 #[.int .i64 n] w fun e w' => e = .returned (.bool (decide (8 < n))) ∧ w' = w := Any.strings_shouldUseASCIISet Tryd.lays226 n w
def Tryd.lays153_ren : Go.Shelf.Ren := ⟨fun | 153 => 62 | 152 => 72 | 226 => 73 | 227 => 74 | 228 => 75 | 137 => 69 | 119 => 84 | 224 => 85 | 225 => 86 | 217 => 81 | 266 => 92 | n => n, fun | 9 => 9 | 3 => 3 | 4 => 4 | 5 => 5 | 21 => 21 | 117 => 111 | 116 => 110 | 0 => 0 | 46 => 122 | 124 => 123 | n => n, fun | n => n⟩
theorem Tryd.lays153 : Go.Proofs.Lays.n153 Tryd.prog Tryd.lays153_ren := {
  mixed := by kernel_rfl
  f119 := Tryd.func84.trans (congrArg some (by kernel_rfl))
  f137 := Tryd.func69.trans (congrArg some (by kernel_rfl))
  f152 := Tryd.func72.trans (congrArg some (by kernel_rfl))
  f153 := Tryd.func62.trans (congrArg some (by kernel_rfl))
  f217 := Tryd.func81.trans (congrArg some (by kernel_rfl))
  f224 := Tryd.func85.trans (congrArg some (by kernel_rfl))
  f225 := Tryd.func86.trans (congrArg some (by kernel_rfl))
  f226 := Tryd.func73.trans (congrArg some (by kernel_rfl))
  f227 := Tryd.func74.trans (congrArg some (by kernel_rfl))
  f228 := Tryd.func75.trans (congrArg some (by kernel_rfl))
  f266 := Tryd.func92.trans (congrArg some (by kernel_rfl))
  t0 := Tryd.underlying0
  a0 := Tryd.isAgg0
  z0 := Tryd.sizeOf0
  v0 := Tryd.zeroValue0
  t3 := Tryd.underlying3
  a3 := Tryd.isAgg3
  z3 := Tryd.sizeOf3
  v3 := Tryd.zeroValue3
  t4 := Tryd.underlying4
  a4 := Tryd.isAgg4
  z4 := Tryd.sizeOf4
  v4 := Tryd.zeroValue4
  t5 := Tryd.underlying5
  a5 := Tryd.isAgg5
  z5 := Tryd.sizeOf5
  v5 := Tryd.zeroValue5
  t9 := Tryd.underlying9
  a9 := Tryd.isAgg9
  z9 := Tryd.sizeOf9
  v9 := Tryd.zeroValue9
  t21 := Tryd.underlying21
  a21 := Tryd.isAgg21
  z21 := Tryd.sizeOf21
  v21 := Tryd.zeroValue21
  t46 := Tryd.underlying122
  a46 := Tryd.isAgg122
  z46 := Tryd.sizeOf122
  v46 := Tryd.zeroValue122
  t116 := Tryd.underlying110
  a116 := Tryd.isAgg110
  z116 := Tryd.sizeOf110
  t117 := Tryd.underlying111
  a117 := Tryd.isAgg111
  z117 := Tryd.sizeOf111
  v117 := Tryd.zeroValue111
  t124 := Tryd.underlying123
  a124 := Tryd.isAgg123
  z124 := Tryd.sizeOf123
  v124 := Tryd.zeroValue123 }
def Tryd.lays227_ren : Go.Shelf.Ren := ⟨fun | 227 => 74 | n => n, fun | 9 => 9 | 116 => 110 | 4 => 4 | 0 => 0 | 3 => 3 | 5 => 5 | n => n, fun | n => n⟩
theorem Tryd.lays227 : Go.Proofs.Lays.n227 Tryd.prog Tryd.lays227_ren := {
  mixed := by kernel_rfl
  f227 := Tryd.func74.trans (congrArg some (by kernel_rfl))
  t0 := Tryd.underlying0
  a0 := Tryd.isAgg0
  z0 := Tryd.sizeOf0
  v0 := Tryd.zeroValue0
  t3 := Tryd.underlying3
  a3 := Tryd.isAgg3
  z3 := Tryd.sizeOf3
  v3 := Tryd.zeroValue3
  t4 := Tryd.underlying4
  a4 := Tryd.isAgg4
  z4 := Tryd.sizeOf4
  v4 := Tryd.zeroValue4
  t5 := Tryd.underlying5
  a5 := Tryd.isAgg5
  z5 := Tryd.sizeOf5
  v5 := Tryd.zeroValue5
  t9 := Tryd.underlying9
  a9 := Tryd.isAgg9
  z9 := Tryd.sizeOf9
  v9 := Tryd.zeroValue9
  t116 := Tryd.underlying110
  a116 := Tryd.isAgg110
  z116 := Tryd.sizeOf110 }
open Go.RowKit Go.Lib in
theorem Tryd.strings_makeASCIISet (hv116 : ∀ w, (zeroValue 110).run Tryd.prog w = .ok (.agg (Array.replicate 256 (.bool false))) w) (chars : ByteArray) (w : World) (hs : chars.size < 4294967281) (hascii : ∀ (j : Nat) b, chars.data.toList[j]? = some b → b.toNat < 128) :
    Calls Tryd.prog 74 #[.string chars] w fun e w' => e = .returned (.tuple #[.agg (Lib.setCells chars.data.toList), .bool true]) ∧ w' = w.alloc (.cells (Lib.setCells chars.data.toList) 110) := Any.strings_makeASCIISet Tryd.lays227 hv116 (by kernel_rfl) chars w hs hascii
def Tryd.lays228_ren : Go.Shelf.Ren := ⟨fun | 228 => 75 | n => n, fun | 124 => 123 | 5 => 5 | 4 => 4 | 0 => 0 | 116 => 110 | n => n, fun | n => n⟩
theorem Tryd.lays228 : Go.Proofs.Lays.n228 Tryd.prog Tryd.lays228_ren := {
  mixed := by kernel_rfl
  f228 := Tryd.func75.trans (congrArg some (by kernel_rfl))
  t0 := Tryd.underlying0
  a0 := Tryd.isAgg0
  z0 := Tryd.sizeOf0
  v0 := Tryd.zeroValue0
  t4 := Tryd.underlying4
  a4 := Tryd.isAgg4
  z4 := Tryd.sizeOf4
  v4 := Tryd.zeroValue4
  t5 := Tryd.underlying5
  a5 := Tryd.isAgg5
  z5 := Tryd.sizeOf5
  v5 := Tryd.zeroValue5
  t116 := Tryd.underlying110
  a116 := Tryd.isAgg110
  z116 := Tryd.sizeOf110
  t124 := Tryd.underlying123
  a124 := Tryd.isAgg123
  z124 := Tryd.sizeOf123
  v124 := Tryd.zeroValue123 }
open Go.RowKit Go.Lib in
/-- '(as *asciiSet) contains(c)': 'as[c]': the set lies at block b, whole. (LAID: no walk: one application.) -/
theorem Tryd.asciiSet_contains (b : Nat) (x : UInt8) (v : Bool) (w : World) (hc : w.cell? ⟨b, x.toNat, none⟩ = some (.bool v)) :
    Calls Tryd.prog 75 #[.pointer (some ⟨b, 0, none⟩), .int .u8 x.toNat] w fun e w' => e = .returned (.bool v) ∧ w' = w := Any.asciiSet_contains Tryd.lays228 b x v w hc
open Go.RowKit Go.Lib in
theorem Tryd.strings_IndexAny_long (hv116 : ∀ w, (zeroValue 110).run Tryd.prog w = .ok (.agg (Array.replicate 256 (.bool false))) w) (s chars : ByteArray) (w : World) (h2 : 2 ≤ chars.size) (h8 : 8 < s.size) (hs : s.size < 4294967281) (hcs : chars.size < 4294967281) (hascii : ∀ (j : Nat) b, chars.data.toList[j]? = some b → b.toNat < 128) :
    Calls Tryd.prog 62 #[.string s, .string chars] w fun e w' => e = .returned (.int .i64 (Lib.indexAny s.data.toList chars.data.toList)) ∧ w' = ((w.alloc (.cells (Lib.setCells chars.data.toList) 110)).alloc (.cells (Lib.setCells chars.data.toList) 110)) := Any.strings_IndexAny_long Tryd.lays153 hv116 (by kernel_rfl) s chars w h2 h8 hs hcs hascii
end Go.Proofs

/- strings.IndexRune: a rune above the ASCII ones is not in "\r\n". -/
namespace Go.Proofs.YtpldbgdhflmjhaaDoor
set_option linter.unusedVariables false
set_option linter.unusedSimpArgs false
open Go.RowKit
abbrev crlfS : ByteArray := ⟨#[13, 10]⟩
theorem ib_empty (c : Int) (w : World) : Calls Tryd.prog 69 #[.string ByteArray.empty, .int .u8 c] w fun e w' => e = .returned (.int .i64 (-1)) ∧ w' = w :=
  (Tryd.strings_IndexByte ByteArray.empty c w).mono fun e w' h => ⟨h.1, h.2⟩
theorem encode_two {r : Int} (h0 : 128 ≤ r) (h1 : r < 2048) : ∃ x y : UInt8, Utf8.encode r = ⟨#[x, y]⟩ ∧ y ≠ 10 := by
  have hv : Utf8.valid r = true := by simp [Utf8.valid]; omega
  refine ⟨_, _, by unfold Utf8.encode; simp only [hv, if_true]; rw [if_neg (by omega), if_pos (by omega)], fun e => ?_⟩
  have := congrArg UInt8.toNat e
  simp at this
  omega
theorem encode_more {r : Int} (h0 : 2048 ≤ r) (hv : Lib.validRune r = true) : ∃ n, (Utf8.encode r).size = n ∧ 3 ≤ n ∧ n ≤ 4 := by
  have hv' : Utf8.valid r = true := by
    unfold Lib.validRune at hv
    have := of_decide_eq_true hv
    simp [Utf8.valid]; omega
  unfold Utf8.encode
  simp only [hv', if_true]
  rw [if_neg (by omega), if_neg (by omega)]
  split
  · exact ⟨3, rfl, by omega, by omega⟩
  · exact ⟨4, rfl, by omega, by omega⟩
set_option maxHeartbeats 1600000 in
set_option maxRecDepth 100000 in
theorem idxRune_err (w : World) : Calls Tryd.prog 72 #[.string crlfS, .int .i32 65533] w fun e w' => e = .returned (.int .i64 (-1)) ∧ Below w.heap.size w w' := by
  go_enter Tryd.func72, Tryd.ntmps72
  go_wp2
  go_loopg [5, 6] 2 (fun g _ _ wx => ∃ i : Nat, i + g = 2 ∧ wx = w.iter crlfS i)
  case atStart => exact ⟨0, by omega, rfl⟩
  case round =>
    obtain ⟨i, hig, rfl⟩ := hrel
    cases gk with
    | zero =>
      obtain rfl : i = 2 := by omega
      have hnx := run_next_end (P := Tryd.prog) w crlfS 2
      have hnx := fun ty => hnx ty (by decide)
      go_wp2
      go_ret
      exact ⟨rfl, (Below.refl _ _).alloc (Nat.le_refl _) _⟩
    | succ g =>
      rcases Nat.lt_or_ge i 1 with h | h
      · obtain rfl : i = 0 := by omega
        have hnx := fun ty => run_next_ascii (P := Tryd.prog) w crlfS 0 ty (by decide) (by decide)
        have hx : (crlfS[0]'(by decide)).toNat = 13 := rfl
        rw [hx] at hnx
        clear hx
        go_wp2
        go_roundg g
        case measure => omega
        case rel => exact ⟨1, by omega, rfl⟩
      · obtain rfl : i = 1 := by omega
        have hnx := fun ty => run_next_ascii (P := Tryd.prog) w crlfS 1 ty (by decide) (by decide)
        have hx : (crlfS[1]'(by decide)).toNat = 10 := rfl
        rw [hx] at hnx
        clear hx
        go_wp2
        go_roundg g
        case measure => omega
        case rel => exact ⟨2, by omega, rfl⟩
set_option maxHeartbeats 1600000 in
set_option maxRecDepth 100000 in
theorem idxRune_bad {r : Int} (h0 : 128 ≤ r) (h1 : r ≤ 2147483647) (hv : Lib.validRune r = false) (hne : r ≠ 65533) (w : World) : Calls Tryd.prog 72 #[.string crlfS, .int .i32 r] w fun e w' => e = .returned (.int .i64 (-1)) ∧ Below w.heap.size w w' := by
  have HV := Lib.hid (fun w => (Tryd.utf8_ValidRune r w))
  rw [hv] at HV
  have e1 : decide ((0 : Int) ≤ r) = true := decide_eq_true (by omega)
  have e2 : decide (r < (128 : Int)) = false := decide_eq_false (by omega)
  have e3 : (r == (65533 : Int)) = false := by rw [beq_eq_false_iff_ne]; exact hne
  clear hv hne h0 h1
  go_enter Tryd.func72, Tryd.ntmps72
  go_wp2_with fail
  refine (HV.out _).mono ?_
  rintro e w' ⟨rfl, rfl⟩
  go_wp2_with fail
  go_ret
  exact ⟨rfl, Below.refl _ _⟩
set_option maxHeartbeats 1600000 in
set_option maxRecDepth 100000 in
theorem idxRune_more {r : Int} (h0 : 2048 ≤ r) (hv : Lib.validRune r = true) (hne : r ≠ 65533) (w : World) : Calls Tryd.prog 72 #[.string crlfS, .int .i32 r] w fun e w' => e = .returned (.int .i64 (-1)) ∧ Below w.heap.size w w' := by
  have HV := Lib.hid (fun w => (Tryd.utf8_ValidRune r w))
  rw [hv] at HV
  obtain ⟨n, hn, h3, h4⟩ := encode_more h0 hv
  have e1 : decide ((0 : Int) ≤ r) = true := decide_eq_true (by omega)
  have e2 : decide (r < (128 : Int)) = false := decide_eq_false (by omega)
  have e3 : (r == (65533 : Int)) = false := by rw [beq_eq_false_iff_ne]; exact hne
  obtain ⟨rs, hrs⟩ : ∃ rs, Utf8.encode r = rs := ⟨_, rfl⟩
  have hcv : ∀ w, (convert 21 9 (.int .i32 r)).run Tryd.prog w = .ok (.string rs) w := fun w => by
    rw [run_convert_int_string w 21 9 .i32 r (by rw [Tryd.underlying21]; rfl) Tryd.underlying9, hrs]
  rw [hrs] at hn
  have e4 : decide ((n : Int) - 1 < 2) = false := decide_eq_false (by omega)
  clear hv hne h0 hrs
  go_enter Tryd.func72, Tryd.ntmps72
  go_wp2_with fail
  refine (HV.out _).mono ?_
  rintro e w' ⟨rfl, rfl⟩
  go_wp2_with fail
  go_step3
  go_wp2_with fail
  go_loop [9] (fun i => i = .int .i64 ((n : Int) - 1)) (fun _ => 0)
  case atStart => rfl
  case round =>
    obtain rfl := hrel
    go_wp2_with fail
    go_ret
    exact ⟨rfl, Below.refl _ _⟩
set_option maxHeartbeats 1600000 in
set_option maxRecDepth 100000 in
theorem idxRune_two {r : Int} (h0 : 128 ≤ r) (h1 : r < 2048) (w : World) : Calls Tryd.prog 72 #[.string crlfS, .int .i32 r] w fun e w' => e = .returned (.int .i64 (-1)) ∧ Below w.heap.size w w' := by
  have hv : Lib.validRune r = true := decide_eq_true (by omega)
  have HV := Lib.hid (fun w => (Tryd.utf8_ValidRune r w))
  rw [hv] at HV
  obtain ⟨x, y, hxy, hy⟩ := encode_two h0 h1
  have e1 : decide ((0 : Int) ≤ r) = true := decide_eq_true (by omega)
  have e2 : decide (r < (128 : Int)) = false := decide_eq_false (by omega)
  have e3 : (r == (65533 : Int)) = false := by rw [beq_eq_false_iff_ne]; omega
  have hcv : ∀ w, (convert 21 9 (.int .i32 r)).run Tryd.prog w = .ok (.string ⟨#[x, y]⟩) w := fun w => by
    rw [run_convert_int_string w 21 9 .i32 r (by rw [Tryd.underlying21]; rfl) Tryd.underlying9, hxy]
  have hy2 : (10 : Int) ≠ (y.toNat : Int) := fun e => hy (UInt8.toNat_inj.1 (by have h10 : (10 : UInt8).toNat = 10 := rfl; rw [h10]; omega))
  have e5 : ((10 : Int) != (y.toNat : Int)) = true := by simpa using hy2
  have e7 : (((crlfS[1]'(by decide)).toNat : Int) != (((⟨#[x, y]⟩ : ByteArray)[1]'(show 1 < 2 by omega)).toNat : Int)) = true := e5
  have e6 : IntKind.i64.wrap 2 = 2 := IntWalk.i64_in _ (by omega)
  have HY := Lib.hid hy
  clear hv h0 h1 hxy hy hy2
  go_enter Tryd.func72, Tryd.ntmps72
  go_wp2_with fail
  refine (HV.out _).mono ?_
  rintro e w' ⟨rfl, rfl⟩
  go_wp2_with fail
  go_step3
  go_wp2_with fail
  go_loop [9, 10] (fun i f => i = .int .i64 1 ∧ f = .int .i64 0) (fun _ _ => 0)
  case atStart => exact ⟨rfl, rfl⟩
  case round =>
    obtain ⟨rfl, rfl⟩ := hrel
    go_wp2_with fail
    go_step3
    go_upto_region 6 with (fail)
    go_quiet (fail)
    obtain ⟨X1, f, hX1, hf, hF⟩ := classOf (fun w'' => w''.heap.size = w''.heap.size) (w := w') rfl
    have HFa := Lib.hid (fun w => hF w rfl)
    clear hF hf
    go_upto_region 7 with (fail)
    refine wp_region_text ⟨[7], [], 9⟩ (fun w' => ∃ x : X1, w' = f x) (by kernel_rfl) (by kernel_rfl) (HFa.out _) ?_
    refine wpC_seg false (HFa.out _) 7 0 _ _ (by rfl) (by rfl) ?_
    simp only [List.take_succ_cons, List.take_zero, List.drop_succ_cons, List.drop_zero, Bool.false_eq_true, if_false, Nat.zero_add, Nat.reduceAdd]
    repeat (go_big_quiet_step (fail))
    refine wpQuiet_nil ?_
    refine wpC_loud (by rfl) (by rfl) fun K hK => ?_
    go_wp2_with fail
    refine (ib_empty _ _).mono ?_
    rintro e w2 ⟨rfl, hww⟩
    rw [hww]
    clear hww w2
    refine hK _ _ (fun _ => HFa.out _) ?_
    clear hK
    refine wpC_seg false (HFa.out _) 1 8 _ _ (by rfl) (by rfl) ?_
    simp only [List.take_succ_cons, List.take_zero, List.drop_succ_cons, List.drop_zero, Bool.false_eq_true, if_false, Nat.zero_add, Nat.reduceAdd]
    repeat (go_big_quiet_step (fail))
    refine wpQuiet_nil ?_
    refine wpC_nil ?_
    clear HFa hX1 f
    go_wp2_with fail
    rw [Exit.noGoto_ret]
    simp (config := {zetaDelta := true}) only [Exit.inBlock, Exit.then, Exit.noGoto_ret]
    go_ret
    exact ⟨rfl, belowN (Below.refl _ _) _⟩
/-- A rune above the ASCII ones is not in "\r\n". -/
theorem idxRune_high {r : Int} (h0 : 128 ≤ r) (h1 : r ≤ 2147483647) (w : World) : Calls Tryd.prog 72 #[.string crlfS, .int .i32 r] w fun e w' => e = .returned (.int .i64 (-1)) ∧ Below w.heap.size w w' := by
  by_cases hne : r = 65533
  · subst hne; exact idxRune_err w
  · cases hv : Lib.validRune r
    · exact idxRune_bad h0 h1 hv hne w
    · by_cases h2 : r < 2048
      · exact idxRune_two h0 h2 w
      · exact idxRune_more (by omega) hv hne w
end Go.Proofs.YtpldbgdhflmjhaaDoor

/- pack: texts in one piece, in plain Lean. -/
namespace Go.Proofs.YtpldbgdhflmjhaaDoor
set_option linter.unusedVariables false
set_option linter.unusedSimpArgs false
open Go.RowKit
theorem str_eq {a b : ByteArray} (h : a = b) : (a.toList == b.toList) = true := by rw [h]; exact beq_self_eq_true _
theorem str_ne {a b : ByteArray} (h : a ≠ b) : (a.toList == b.toList) = false := by
  rw [beq_eq_false_iff_ne, ne_eq, ByteArray.toList_eq, ByteArray.toList_eq]
  exact fun e => h (ByteArray.ext (Array.toList_inj.1 e))
/-- The whole number of a text. -/
def intS (s : ByteArray) : Option Int :=
  match Lib.parseIntB 64 s.data.toList with
  | .ok v => if strOf (Lib.itoa v) = s then some v else none
  | _ => none
def intT (n : Int) : ByteArray := strOf (Lib.itoa n)
theorem parseU_bound : ∀ (M : Nat) (l : List UInt8) (acc u : Nat), acc ≤ M → Lib.parseUintM M acc l = .ok u → u ≤ M
  | M, [], acc, u, h, e => by simp only [Lib.parseUintM] at e; cases e; exact h
  | M, c :: r, acc, u, h, e => by
    simp only [Lib.parseUintM] at e
    split at e
    · split at e
      · cases e
      · split at e
        · cases e
        · exact parseU_bound M r _ u (by omega) e
    · cases e
theorem parseI_range {l : List UInt8} {v : Int} (h : Lib.parseIntB 64 l = .ok v) : -9223372036854775808 ≤ v ∧ v ≤ 9223372036854775807 := by
  unfold Lib.parseIntB at h
  cases l with
  | nil => cases h
  | cons c r =>
    simp only at h
    split at h
    · cases h
    · cases h
    · next u hu =>
      split at h
      · cases h
      · split at h
        · cases h
        · next h1 h2 =>
          simp only [Nat.reduceSub, Nat.reducePow] at h1 h2
          cases h
          split <;> omega
theorem intS_range {s : ByteArray} {n : Int} (h : intS s = some n) : -9223372036854775808 ≤ n ∧ n ≤ 9223372036854775807 := by
  unfold intS at h
  split at h
  · next v hv =>
    split at h
    · cases h; exact parseI_range hv
    · cases h
  · cases h
theorem intS_text {s : ByteArray} {n : Int} (h : intS s = some n) : intT n = s := by
  unfold intS at h
  split at h
  · next v hv =>
    split at h
    · next he => cases h; exact he
    · cases h
  · cases h
/-- How many bytes a whole number wants. -/
def wideI (n : Int) : Nat := if -128 ≤ n ∧ n ≤ 127 then 1 else if -32768 ≤ n ∧ n ≤ 32767 then 2 else if -2147483648 ≤ n ∧ n ≤ 2147483647 then 4 else 8
/-- Of a size, readable from behind. -/
def backF : Nat → Nat → List UInt8
  | 0, _ => []
  | f + 1, n => if n < 128 then [UInt8.ofNat n] else backF f (n / 128) ++ [UInt8.ofNat (128 + n % 128)]
def backL (n : Nat) : List UInt8 := backF 5 n
/-- An entry's head and body. -/
def headL (s : ByteArray) : List UInt8 :=
  match intS s with
  | some n => UInt8.ofNat (240 + wideI n) :: leN (wideI n) (n % 18446744073709551616).toNat
  | none => if s.size < 128 then UInt8.ofNat s.size :: s.data.toList else 128 :: (leN 3 s.size ++ s.data.toList)
def entL (s : ByteArray) : List UInt8 := headL s ++ backL (headL s).length
def bodyL (L : List ByteArray) : List UInt8 := L.flatMap entL
def sizeP (L : List ByteArray) : Nat := (bodyL L).length + 9
/-- The piece. -/
def packL (L : List ByteArray) : List UInt8 := leN 4 (sizeP L) ++ (leN 4 L.length ++ (bodyL L ++ [255]))
def signN (w n : Nat) : Int := if n < 2 ^ (8 * w - 1) then (n : Int) else (n : Int) - (2 ^ (8 * w) : Nat)
/-- The text of an entry, and how many bytes its head and body are. -/
def readL : List UInt8 → Option (ByteArray × Nat)
  | [] => none
  | c :: body =>
    if c.toNat < 128 then (if body.length < c.toNat then none else some (strOf (body.take c.toNat), 1 + c.toNat))
    else if c.toNat = 128 ∧ 3 ≤ body.length then (if body.length - 3 < lowN (body.take 3) then none else some (strOf ((body.drop 3).take (lowN (body.take 3))), 4 + lowN (body.take 3)))
    else if (c.toNat = 241 ∨ c.toNat = 242 ∨ c.toNat = 244 ∨ c.toNat = 248) ∧ c.toNat - 240 ≤ body.length then some (intT (signN (c.toNat - 240) (lowN (body.take (c.toNat - 240)))), 1 + (c.toNat - 240))
    else none
theorem wideI_cases (n : Int) : wideI n = 1 ∨ wideI n = 2 ∨ wideI n = 4 ∨ wideI n = 8 := by
  unfold wideI; split
  · exact .inl rfl
  · split
    · exact .inr (.inl rfl)
    · split
      · exact .inr (.inr (.inl rfl))
      · exact .inr (.inr (.inr rfl))
theorem sign_wide {n : Int} (h : -9223372036854775808 ≤ n ∧ n ≤ 9223372036854775807) : signN (wideI n) ((n % 18446744073709551616).toNat % 256 ^ wideI n) = n := by
  unfold wideI
  split
  · simp only [signN, Nat.reduceMul, Nat.reduceSub, Nat.reducePow]; split <;> omega
  · split
    · simp only [signN, Nat.reduceMul, Nat.reduceSub, Nat.reducePow]; split <;> omega
    · split
      · simp only [signN, Nat.reduceMul, Nat.reduceSub, Nat.reducePow]; split <;> omega
      · simp only [signN, Nat.reduceMul, Nat.reduceSub, Nat.reducePow]; split <;> omega
theorem headL_int {s : ByteArray} {n : Int} (h : intS s = some n) : headL s = UInt8.ofNat (240 + wideI n) :: leN (wideI n) (n % 18446744073709551616).toNat := by unfold headL; rw [h]
theorem headL_short {s : ByteArray} (h : intS s = none) (h1 : s.size < 128) : headL s = UInt8.ofNat s.size :: s.data.toList := by unfold headL; rw [h]; simp [h1]
theorem headL_long {s : ByteArray} (h : intS s = none) (h1 : 128 ≤ s.size) : headL s = 128 :: (leN 3 s.size ++ s.data.toList) := by unfold headL; rw [h]; simp [Nat.not_lt.2 h1]
theorem size_list (s : ByteArray) : s.data.toList.length = s.size := by simp
theorem headL_length (s : ByteArray) : 1 ≤ (headL s).length ∧ (headL s).length ≤ s.size + 9 := by
  have := size_list s
  cases h : intS s with
  | some n =>
    rw [headL_int h, List.length_cons, leN_length]
    rcases wideI_cases n with e | e | e | e <;> rw [e] <;> omega
  | none =>
    by_cases h1 : s.size < 128
    · rw [headL_short h h1, List.length_cons]; omega
    · rw [headL_long h (by omega), List.length_cons, List.length_append, leN_length]; omega
/-- What was written is read, whatever stands behind it. -/
theorem read_head (s : ByteArray) (hs : s.size < 16777216) (r : List UInt8) : readL (headL s ++ r) = some (s, (headL s).length) := by
  have hl := size_list s
  cases h : intS s with
  | some n =>
    have hr := sign_wide (intS_range h)
    have ht := intS_text h
    rw [headL_int h, List.cons_append, readL, List.length_cons, leN_length]
    have hw := wideI_cases n
    have hc : (UInt8.ofNat (240 + wideI n)).toNat = 240 + wideI n := by
      rw [UInt8.toNat_ofNat']; omega
    rw [hc, if_neg (by omega), if_neg (by omega), if_pos ⟨by omega, by simp⟩, Nat.add_sub_cancel_left, List.take_left' (leN_length _ _), lowN_leN, hr, ht, Nat.add_comm]
  | none =>
    by_cases h1 : s.size < 128
    · have hc : (UInt8.ofNat s.size).toNat = s.size := by rw [UInt8.toNat_ofNat']; omega
      rw [headL_short h h1, List.cons_append, readL, hc, if_pos h1, if_neg (by simp), List.take_left' hl, strOf_toList, List.length_cons, hl, Nat.add_comm]
    · have e1 : ((leN 3 s.size ++ s.data.toList) ++ r).take 3 = leN 3 s.size := by rw [List.append_assoc]; exact List.take_left' (leN_length _ _)
      have e2 : ((leN 3 s.size ++ s.data.toList) ++ r).drop 3 = s.data.toList ++ r := by rw [List.append_assoc]; exact List.drop_left' (leN_length _ _)
      have e3 : lowN (leN 3 s.size) = s.size := by rw [lowN_leN]; omega
      rw [headL_long h (by omega), List.cons_append, readL, e1, e2, e3, List.take_left' hl, strOf_toList]
      rw [if_neg (by decide), if_pos ⟨by decide, by simp⟩, if_neg (by simp)]
      simp; omega
end Go.Proofs.YtpldbgdhflmjhaaDoor

/- Replies, in plain Lean: what they are, their bytes, which of them may be, how much they have in them. -/
namespace Go.Proofs.YtpldbgdhflmjhaaDoor
set_option linter.unusedVariables false
set_option linter.unusedSimpArgs false
open Go.RowKit
/-- A reply: its kind, text, number and list. -/
inductive Rep where
  | mk (k : Int) (t : ByteArray) (n : Int) (l : List Rep)
def Rep.k : Rep → Int | .mk k _ _ _ => k
def Rep.t : Rep → ByteArray | .mk _ t _ _ => t
def Rep.n : Rep → Int | .mk _ _ n _ => n
def Rep.l : Rep → List Rep | .mk _ _ _ l => l
theorem Rep.ind {P : Rep → Prop} (h : ∀ k t n l, (∀ r ∈ l, P r) → P (.mk k t n l)) (r : Rep) : P r :=
  Rep.rec (motive_1 := P) (motive_2 := fun l => ∀ r ∈ l, P r) (fun k t n l ih => h k t n l ih) (fun r hr => by cases hr) (fun r l h1 h2 x hx => by
    rcases List.mem_cons.1 hx with e | e
    · rw [e]; exact h1
    · exact h2 x e) r
mutual
/-- How much a reply has in it. -/
def sizeR : Rep → Nat
  | .mk _ t _ l => 1 + t.size + (l.length + sizeL l)
def sizeL : List Rep → Nat
  | [] => 0
  | r :: l => sizeR r + sizeL l
end
theorem sizeL_append : ∀ (A B : List Rep), sizeL (A ++ B) = sizeL A + sizeL B
  | [], B => by simp [sizeL]
  | r :: A, B => by simp only [List.cons_append, sizeL]; rw [sizeL_append A B]; omega
theorem sizeL_mem {r : Rep} : ∀ {L : List Rep}, r ∈ L → sizeR r ≤ sizeL L
  | x :: L, h => by
    simp only [sizeL]
    rcases List.mem_cons.1 h with e | e
    · subst e; omega
    · have := sizeL_mem e; omega
/-- Neither 10 nor 13. -/
def bareB (s : ByteArray) : Bool := s.data.toList.all fun b => b != 10 && b != 13
mutual
/-- May a reply be, so many lists deep? -/
def mayR (d : Nat) : Rep → Bool
  | .mk k t n l =>
    if k = 1 ∨ k = 2 then bareB t && (decide (n = 0) && decide (l.length = 0))
    else if k = 3 then decide (t.size = 0) && decide (l.length = 0)
    else if k = 4 then decide (n = 0) && decide (l.length = 0)
    else if k = 5 ∨ k = 7 then decide (t.size = 0) && (decide (n = 0) && decide (l.length = 0))
    else if k = 6 then decide (t.size = 0) && (decide (n = 0) && (decide (d < 8) && mayL (d + 1) l))
    else false
def mayL (d : Nat) : List Rep → Bool
  | [] => true
  | r :: l => mayR d r && mayL d l
end
theorem mayL_all (d : Nat) : ∀ (L : List Rep), mayL d L = L.all (mayR d)
  | [] => rfl
  | r :: L => by simp only [mayL, List.all_cons]; rw [mayL_all d L]
abbrev crlfB : List UInt8 := [13, 10]
mutual
/-- A reply's bytes. -/
def encR : Rep → List UInt8
  | .mk k t n l =>
    if k = 1 then 43 :: (t.data.toList ++ crlfB)
    else if k = 2 then 45 :: (t.data.toList ++ crlfB)
    else if k = 3 then 58 :: (Lib.itoa n ++ crlfB)
    else if k = 4 then 36 :: (Lib.itoa t.size ++ (crlfB ++ (t.data.toList ++ crlfB)))
    else if k = 5 then [36, 45, 49, 13, 10]
    else if k = 7 then [42, 45, 49, 13, 10]
    else 42 :: (Lib.itoa l.length ++ (crlfB ++ encL l))
def encL : List Rep → List UInt8
  | [] => []
  | r :: l => encR r ++ encL l
end
theorem encL_append : ∀ (A B : List Rep), encL (A ++ B) = encL A ++ encL B
  | [], B => by simp [encL]
  | r :: A, B => by simp only [List.cons_append, encL]; rw [encL_append A B, List.append_assoc]
/-- What a reply is written as: its bytes, or none and the error 1. -/
def encS (r : Rep) : ByteArray × Int := if mayR 0 r then (strOf (encR r), 0) else (⟨#[]⟩, 1)
/-- A command as a reply. -/
def cmdR (L : List ByteArray) : Rep := .mk 6 ⟨#[]⟩ 0 (L.map fun s => .mk 4 s 0 [])
def reqS (L : List ByteArray) : ByteArray × Int := if L.length = 0 ∨ 1024 < L.length ∨ L.any (fun s => decide (65536 < s.size)) then (⟨#[]⟩, 1) else (strOf (encR (cmdR L)), 0)
end Go.Proofs.YtpldbgdhflmjhaaDoor

/- strings.ContainsAny(s, "\r\n"), of any bytes. -/
namespace Go.Proofs.YtpldbgdhflmjhaaDoor
set_option linter.unusedVariables false
set_option linter.unusedSimpArgs false
open Go.RowKit
theorem get_idx (s : ByteArray) (i : Nat) (h : i < s.size) : s.get! i = s[i]'h := by
  simp [ByteArray.get!, getElem!_pos, h]
  rfl
/-- What a byte above the ASCII ones begins: no ASCII rune, and bytes above them. -/
theorem decode_high (s : ByteArray) (pos : Nat) (h : pos < s.size) (hb : 128 ≤ (s.get! pos).toNat) :
    128 ≤ (Utf8.decode s pos).1 ∧ 0 < (Utf8.decode s pos).2 ∧ pos + (Utf8.decode s pos).2 ≤ s.size ∧ ∀ j, pos ≤ j → j < pos + (Utf8.decode s pos).2 → 128 ≤ (s.get! j).toNat := by
  have hc : ∀ k, (s.get! (pos + k)).toNat / 64 = 2 → 128 ≤ (s.get! (pos + k)).toNat := fun k hk => by omega
  have one : ∀ j, pos ≤ j → j < pos + 1 → 128 ≤ (s.get! j).toNat := fun j h1 h2 => by
    obtain rfl : j = pos := by omega
    exact hb
  simp only [Utf8.decode, Nat.add_zero]
  rw [if_neg (by omega)]
  split
  · next h2 =>
    simp only [Bool.and_eq_true, decide_eq_true_eq, beq_iff_eq] at h2
    split
    · next h3 =>
      refine ⟨h3, by omega, by omega, fun j h1 h4 => ?_⟩
      rcases Nat.lt_or_ge j (pos + 1) with h5 | h5
      · exact one j h1 h5
      · obtain rfl : j = pos + 1 := by omega
        exact hc 1 h2.2.2
    · exact ⟨by decide, by omega, by omega, one⟩
  · split
    · next h2 =>
      simp only [Bool.and_eq_true, decide_eq_true_eq, beq_iff_eq] at h2
      split
      · next h3 =>
        simp only [Bool.and_eq_true, decide_eq_true_eq] at h3
        refine ⟨by omega, by omega, by omega, fun j h1 h4 => ?_⟩
        rcases Nat.lt_or_ge j (pos + 1) with h5 | h5
        · exact one j h1 h5
        · rcases Nat.lt_or_ge j (pos + 2) with h6 | h6
          · obtain rfl : j = pos + 1 := by omega
            exact hc 1 h2.1.2.2
          · obtain rfl : j = pos + 2 := by omega
            exact hc 2 h2.2.2
      · exact ⟨by decide, by omega, by omega, one⟩
    · split
      · next h2 =>
        simp only [Bool.and_eq_true, decide_eq_true_eq, beq_iff_eq] at h2
        split
        · next h3 =>
          simp only [Bool.and_eq_true, decide_eq_true_eq] at h3
          refine ⟨by omega, by omega, by omega, fun j h1 h4 => ?_⟩
          rcases Nat.lt_or_ge j (pos + 1) with h5 | h5
          · exact one j h1 h5
          · rcases Nat.lt_or_ge j (pos + 2) with h6 | h6
            · obtain rfl : j = pos + 1 := by omega
              exact hc 1 h2.1.1.2.2
            · rcases Nat.lt_or_ge j (pos + 3) with h7 | h7
              · obtain rfl : j = pos + 2 := by omega
                exact hc 2 h2.1.2.2
              · obtain rfl : j = pos + 3 := by omega
                exact hc 3 h2.2.2
        · exact ⟨by decide, by omega, by omega, one⟩
      · exact ⟨by decide, by omega, by omega, one⟩
abbrev crlfL : List UInt8 := [13, 10]
theorem noAny_more {s : ByteArray} {i k : Nat} (h : Lib.NoAny s.data.toList crlfL i) (hk : i + k ≤ s.size) (hb : ∀ j, i ≤ j → j < i + k → 128 ≤ (s.get! j).toNat) : Lib.NoAny s.data.toList crlfL (i + k) := fun j b hj hx => by
  rcases Nat.lt_or_ge j i with h' | h'
  · exact h j b h' hx
  · have h1 := hb j h' hj
    rw [get_idx s j (by omega)] at h1
    have h2 : s.data.toList[j]? = some (s[j]'(by omega)) := Lib.data_getElem? s j (by omega)
    rw [h2] at hx
    cases hx
    simp only [List.contains_cons, List.contains_nil, Bool.or_false, Bool.or_eq_false_iff, beq_eq_false_iff_ne]
    refine ⟨fun e => ?_, fun e => ?_⟩
    · rw [e] at h1; exact absurd h1 (by decide)
    · rw [e] at h1; exact absurd h1 (by decide)
theorem iterAt_below {B k : Nat} {a w : World} {s : ByteArray} {i j : Nat} (h : Below B a w) (hk : w.heap[k]? = some (.stringIter s i)) (hB : B ≤ k) : Below B a (w.iterAt k s j) :=
  h.trans ⟨rfl, rfl, rfl, by simp [World.iterAt], fun x hx => by
    simp only [World.iterAt]
    rw [Array.getElem?_setIfInBounds, if_neg (by omega)]⟩
set_option maxHeartbeats 1600000 in
set_option maxRecDepth 100000 in
theorem indexAny_few (s : ByteArray) (h8 : s.size ≤ 8) (w : World) :
    Calls Tryd.prog 62 #[.string s, .string crlfS] w fun e w' => e = .returned (.int .i64 (Lib.indexAny s.data.toList crlfL)) ∧ Below w.heap.size w w' := by
  have h8z : decide ((8 : Int) < (s.size : Int)) = false := decide_eq_false (by omega)
  have HU := Lib.hid (fun w => Tryd.strings_shouldUseASCIISet (s.size : Int) w)
  rw [h8z] at HU
  clear h8z
  go_enter Tryd.func62, Tryd.ntmps62
  go_wp2_with fail
  refine (HU.out _).mono ?_
  rintro e w' ⟨rfl, hw⟩
  rw [hw]
  clear hw w'
  go_wp2_with fail
  go_loopw [9, 10] (fun _ _ wr => Hid (∃ i : Nat, i ≤ s.size ∧ wr.heap[w.heap.size]? = some (.stringIter s i) ∧ Below w.heap.size w wr ∧ Lib.NoAny s.data.toList crlfL i)) (fun _ _ wr => s.size - wr.iterPos w.heap.size)
  case atStart => exact Lib.hid ⟨0, Nat.zero_le _, World.iter_heap _ _ _, (Below.refl _ _).alloc (Nat.le_refl _) _, Lib.NoAny.zero _ _⟩
  case round =>
    obtain ⟨i, hi, hk, hb, hno⟩ := hrel.out
    have hpos : wr.iterPos w.heap.size = i := by simp [World.iterPos, hk]
    by_cases hlt : i < s.size
    · have HI := Lib.hid (And.intro hk (And.intro hb hno))
      have HP := Lib.hid hpos
      have hcon := Lib.contains_iff_indexByte crlfL (s[i]'hlt)
      have hxl : s.data.toList[i]? = some (s[i]'hlt) := Lib.data_getElem? s i hlt
      obtain ⟨x, hx⟩ : ∃ x : UInt8, s[i]'hlt = x := ⟨_, rfl⟩
      by_cases h128 : x.toNat < 128
      · have hnx := fun ty => Lib.run_next_ascii_at (P := Tryd.prog) wr w.heap.size s i ty hk hlt (by rw [hx]; exact h128)
        rw [hx] at hnx hcon hxl
        have HC := Lib.hid (fun w => Tryd.strings_IndexRune_ascii crlfS (x.toNat : Int) w (by omega) (by omega))
        have hback : ((x.toNat : Int)).toNat.toUInt8 = x := by simp
        rw [hback] at HC
        obtain ⟨w2, hw2⟩ : ∃ w2, wr.iterAt w.heap.size s (i + 1) = w2 := ⟨_, rfl⟩
        rw [hw2] at hnx
        have HN := Lib.hid (show w2.heap[w.heap.size]? = some (.stringIter s (i + 1)) ∧ Below w.heap.size w w2 from by
          rw [← hw2]; exact ⟨Lib.iterAt_heap wr _ s i _ hk, iterAt_below hb hk (Nat.le_refl _)⟩)
        obtain ⟨z, hz⟩ : ∃ z, Lib.indexByte crlfL x = z := ⟨_, rfl⟩
        have hz' : Lib.indexByte crlfS.data.toList x = z := hz
        rw [hz'] at HC
        rw [hz] at hcon
        have HX := Lib.hid (And.intro hxl (And.intro hcon hi))
        clear hk hb hno hpos hrel hx hcon hxl hback hw2 hz hz' hi
        cases hin : crlfL.contains x
        · have hzn : decide (0 ≤ z) = false := by rw [← HX.out.2.1]; exact hin
          go_wp2_with fail
          refine (HC.out _).mono ?_
          rintro e w' ⟨rfl, hww⟩
          rw [hww]
          clear hww w'
          go_wp2_with fail
          go_roundw
          case rel => exact Lib.hid ⟨i + 1, by omega, HN.out.1, HN.out.2, HI.out.2.2.succ HX.out.1 hin⟩
          case measure => have h1 := HP.out; have h2 : w2.iterPos w.heap.size = i + 1 := by simp [World.iterPos, HN.out.1]
                          omega
        · have hzn : decide (0 ≤ z) = true := by rw [← HX.out.2.1]; exact hin
          have hres : Lib.indexAny s.data.toList crlfL = i := Lib.indexAny_hit HI.out.2.2 HX.out.1 hin
          go_wp2_with fail
          refine (HC.out _).mono ?_
          rintro e w' ⟨rfl, hww⟩
          rw [hww]
          clear hww w'
          go_wp2_with fail
          go_ret
          exact ⟨by rw [hres]; rfl, HN.out.2⟩
      · have hg : 128 ≤ (s.get! i).toNat := by rw [get_idx s i hlt, hx]; omega
        obtain ⟨d1, d2, d3, d4⟩ := decode_high s i hlt hg
        have hnx := fun ty => Lib.run_next_any_at (P := Tryd.prog) wr w.heap.size s i ty hk hlt
        have hle := decode_le s i
        obtain ⟨c, hc⟩ : ∃ c, (Utf8.decode s i).1 = c := ⟨_, rfl⟩
        obtain ⟨m, hm⟩ : ∃ m, (Utf8.decode s i).2 = m := ⟨_, rfl⟩
        rw [hc, hm] at hnx
        rw [hc] at d1 hle
        rw [hm] at d2 d3 d4
        have HC := Lib.hid (fun w => idxRune_high (r := (c : Int)) (by omega) (by omega) w)
        obtain ⟨w2, hw2⟩ : ∃ w2, wr.iterAt w.heap.size s (i + m) = w2 := ⟨_, rfl⟩
        rw [hw2] at hnx
        have HN := Lib.hid (show w2.heap[w.heap.size]? = some (.stringIter s (i + m)) ∧ Below w.heap.size w w2 ∧ i + m ≤ s.size ∧ Lib.NoAny s.data.toList crlfL (i + m) ∧ 0 < m from by
          rw [← hw2]; exact ⟨Lib.iterAt_heap wr _ s i _ hk, iterAt_below hb hk (Nat.le_refl _), d3, noAny_more hno d3 d4, d2⟩)
        clear hk hb hno hpos hrel hx hcon hxl hw2 hi d1 d2 d3 d4 hle hc hm hg h128
        go_wp2_with fail
        refine (HC.out _).mono ?_
        rintro e w3 ⟨rfl, b3⟩
        have HB := Lib.hid b3
        clear b3
        go_wp2_with fail
        go_roundw
        case rel => exact Lib.hid ⟨i + m, HN.out.2.2.1, (HB.out.block _ (heap_lt HN.out.1)).trans HN.out.1, HN.out.2.1.trans (HB.out.mono HN.out.2.1.size), HN.out.2.2.2.1⟩
        case measure =>
          have h1 := HP.out
          have h2 : w3.iterPos w.heap.size = i + m := by simp [World.iterPos, (HB.out.block _ (heap_lt HN.out.1)).trans HN.out.1]
          have h3 := HN.out.2.2
          omega
    · obtain rfl : i = s.size := by omega
      have hnx := fun ty => Lib.run_next_end_at (P := Tryd.prog) wr w.heap.size s s.size ty hk hlt
      have HB := Lib.hid hb
      have hres : Lib.indexAny s.data.toList crlfL = -1 := Lib.indexAny_none (by rw [← Lib.size_eq]; exact hno)
      clear hk hb hno hpos hrel hi hlt
      go_wp2_with fail
      go_ret
      exact ⟨by rw [hres]; rfl, HB.out⟩
end Go.Proofs.YtpldbgdhflmjhaaDoor

/- strings.ContainsAny(s, "\r\n"): is one of the two in s? -/
namespace Go.Proofs.YtpldbgdhflmjhaaDoor
set_option linter.unusedVariables false
set_option linter.unusedSimpArgs false
open Go.RowKit
theorem index_crlf : ∀ (l : List UInt8), decide (0 ≤ Lib.indexAny l crlfL) = !(l.all fun b => b != 10 && b != 13)
  | [] => rfl
  | b :: l => by
    have ih := index_crlf l
    have hge := Lib.indexAny_ge crlfL l
    rw [Lib.indexAny, List.all_cons]
    have hc : crlfL.contains b = (b == 13 || b == 10) := by
      simp only [crlfL, List.contains_cons, List.contains_nil, Bool.or_false]
    rw [hc]
    by_cases h1 : b = 13
    · subst h1; rfl
    · by_cases h2 : b = 10
      · subst h2; rfl
      · have e1 : (b == 13) = false := beq_eq_false_iff_ne.2 h1
        have e2 : (b == 10) = false := beq_eq_false_iff_ne.2 h2
        have e3 : (b != 13) = true := by simp [bne, e1]
        have e4 : (b != 10) = true := by simp [bne, e2]
        rw [e1, e2, e3, e4]
        simp only [Bool.or_false, Bool.false_eq_true, if_false, Bool.true_and]
        rw [← ih]
        by_cases h3 : Lib.indexAny l crlfL = -1
        · rw [h3]; rfl
        · rw [if_neg (by simpa using h3)]
          exact decide_eq_decide.2 (by omega)
theorem indexAny_crlf (s : ByteArray) (hs : s.size < 4294967281) (w : World) :
    Calls Tryd.prog 62 #[.string s, .string crlfS] w fun e w' => e = .returned (.int .i64 (Lib.indexAny s.data.toList crlfL)) ∧ Below w.heap.size w w' := by
  by_cases h : s.size ≤ 8
  · exact indexAny_few s h w
  · refine (Tryd.strings_IndexAny_long (zero_of_info (P := Tryd.prog) (n := 256) (by kernel_rfl)).1 s crlfS w (by decide) (by omega) hs (by decide) (fun j b hb => ?_)).mono ?_
    · have : b ∈ ([13, 10] : List UInt8) := List.mem_of_getElem? hb
      simp at this
      rcases this with rfl | rfl <;> decide
    · rintro e w' ⟨rfl, rfl⟩
      exact ⟨rfl, ((Below.refl _ _).alloc (Nat.le_refl _) _).alloc (by simp) _⟩
set_option maxHeartbeats 800000 in
theorem containsCrlf (s : ByteArray) (hs : s.size < 4294967281) (w : World) :
    Calls Tryd.prog 45 #[.string s, .string crlfS] w fun e w' => e = .returned (.bool (!bareB s)) ∧ Below w.heap.size w w' := by
  have HI := Lib.hid (indexAny_crlf s hs w)
  have HB := Lib.hid (index_crlf s.data.toList)
  obtain ⟨z, hz⟩ : ∃ z, Lib.indexAny s.data.toList crlfL = z := ⟨_, rfl⟩
  rw [hz] at HI HB
  clear hz hs
  go_enter Tryd.func45, Tryd.ntmps45
  go_wp2_with fail
  refine HI.out.mono ?_
  rintro e w2 ⟨rfl, b2⟩
  have H2 := Lib.hid b2
  clear b2
  go_wp2_with fail
  go_ret
  exact ⟨ret1 (by unfold bareB; rw [← HB.out]; rfl), H2.out⟩
end Go.Proofs.YtpldbgdhflmjhaaDoor

/- Replies in memory. -/
namespace Go.Proofs.YtpldbgdhflmjhaaDoor
set_option linter.unusedVariables false
set_option linter.unusedSimpArgs false
open Go.RowKit
mutual
/-- A reply stands in memory from a cell on. -/
def RepAt (w : World) : Rep → Nat → Nat → Prop
  | .mk k t n l, b, o => (w.cell? ⟨b, o, none⟩ = some (.int .u8 k) ∧ w.cell? ⟨b, o + 1, none⟩ = some (.string t) ∧ w.cell? ⟨b, o + 2, none⟩ = some (.int .i64 n)) ∧ ((0 ≤ k ∧ k ≤ 255) ∧ (-9223372036854775808 ≤ n ∧ n ≤ 9223372036854775807)) ∧
      ∃ a c, w.cell? ⟨b, o + 3, none⟩ = some (.slice a l.length c) ∧ l.length ≤ c ∧ (l.length = 0 ∨ ∃ b' o', a = some ⟨b', o', none⟩ ∧ RepsAt w l b' o')
def RepsAt (w : World) : List Rep → Nat → Nat → Prop
  | [], _, _ => True
  | r :: l, b, o => RepAt w r b o ∧ RepsAt w l b (o + 4)
end
theorem RepsAt.get {w : World} : ∀ {l : List Rep} {b o : Nat}, RepsAt w l b o → ∀ {i : Nat} (h : i < l.length), RepAt w l[i] b (o + i * 4)
  | r :: l, b, o, h, 0, _ => by
    simp only [RepsAt] at h
    rw [Nat.zero_mul, Nat.add_zero]
    exact h.1
  | r :: l, b, o, h, i + 1, hi => by
    simp only [RepsAt] at h
    have := RepsAt.get h.2 (i := i) (by simpa using hi)
    rw [show o + (i + 1) * 4 = o + 4 + i * 4 by omega]
    exact this
  | [], _, _, _, _, hi => absurd hi (by simp)
theorem RepsAt.of {w : World} : ∀ {l : List Rep} {b o : Nat}, (∀ i (h : i < l.length), RepAt w l[i] b (o + i * 4)) → RepsAt w l b o
  | [], _, _, _ => by simp only [RepsAt]
  | r :: l, b, o, h => by
    simp only [RepsAt]
    have h0 := h 0 (by simp)
    rw [Nat.zero_mul, Nat.add_zero] at h0
    refine ⟨h0, RepsAt.of fun i hi => ?_⟩
    have := h (i + 1) (by simpa using hi)
    rw [show o + 4 + i * 4 = o + (i + 1) * 4 by omega]
    exact this
/-- A slice of replies that can be read. -/
def RepRow (w : World) (a : Option Addr) (n c : Nat) (l : List Rep) : Prop :=
  l.length = n ∧ n ≤ c ∧ (n = 0 ∨ ∃ b o, a = some ⟨b, o, none⟩ ∧ RepsAt w l b o)
/-- A reply by value. -/
def RepV (w : World) (r : Rep) (v : Value) : Prop :=
  ∃ a c, v = .agg #[.int .u8 r.k, .string r.t, .int .i64 r.n, .slice a r.l.length c] ∧ ((0 ≤ r.k ∧ r.k ≤ 255) ∧ (-9223372036854775808 ≤ r.n ∧ r.n ≤ 9223372036854775807)) ∧ RepRow w a r.l.length c r.l
theorem RepAt.val {w : World} {r : Rep} {b o : Nat} (h : RepAt w r b o) : (w.cell? ⟨b, o, none⟩ = some (.int .u8 r.k) ∧ w.cell? ⟨b, o + 1, none⟩ = some (.string r.t) ∧ w.cell? ⟨b, o + 2, none⟩ = some (.int .i64 r.n)) ∧ ((0 ≤ r.k ∧ r.k ≤ 255) ∧ (-9223372036854775808 ≤ r.n ∧ r.n ≤ 9223372036854775807)) ∧
    ∃ a c, w.cell? ⟨b, o + 3, none⟩ = some (.slice a r.l.length c) ∧ RepRow w a r.l.length c r.l := by
  obtain ⟨k, t, n, l⟩ := r
  simp only [RepAt] at h
  obtain ⟨h1, h2, a, c, h3, h4, h5⟩ := h
  exact ⟨h1, h2, a, c, h3, rfl, h4, h5⟩
theorem RepAt.of {w : World} {r : Rep} {b o : Nat} {a : Option Addr} {c : Nat} (h1 : w.cell? ⟨b, o, none⟩ = some (.int .u8 r.k) ∧ w.cell? ⟨b, o + 1, none⟩ = some (.string r.t) ∧ w.cell? ⟨b, o + 2, none⟩ = some (.int .i64 r.n)) (h2 : (0 ≤ r.k ∧ r.k ≤ 255) ∧ (-9223372036854775808 ≤ r.n ∧ r.n ≤ 9223372036854775807))
    (h3 : w.cell? ⟨b, o + 3, none⟩ = some (.slice a r.l.length c)) (h4 : RepRow w a r.l.length c r.l) : RepAt w r b o := by
  obtain ⟨k, t, n, l⟩ := r
  simp only [RepAt]
  exact ⟨h1, h2, a, c, h3, h4.2.1, h4.2.2⟩
theorem RepRow.get {w : World} {a : Option Addr} {n c : Nat} {l : List Rep} (h : RepRow w a n c l) {i : Nat} (hi : i < n) : ∃ b o r, a = some ⟨b, o, none⟩ ∧ l[i]? = some r ∧ RepAt w r b (o + i * 4) := by
  obtain ⟨h1, h2, h3⟩ := h
  obtain ⟨b, o, e, hs⟩ := h3.resolve_left (by omega)
  exact ⟨b, o, l[i]'(by omega), e, List.getElem?_eq_getElem _, hs.get (by omega)⟩
theorem RepAt.lt {w : World} {r : Rep} {b o : Nat} (h : RepAt w r b o) : b < w.heap.size := World.block_lt_of_cell? w ⟨b, o, none⟩ h.val.1.1
theorem RepAt.below {w w' : World} (hb : Below w.heap.size w w') (r : Rep) : ∀ {b o : Nat}, RepAt w r b o → RepAt w' r b o := by
  induction r using Rep.ind with
  | h k t n l ih =>
    intro b o h
    have hlt := h.lt
    have e : ∀ x, w'.cell? ⟨b, x, none⟩ = w.cell? ⟨b, x, none⟩ := fun x => hb.cell (p := ⟨b, x, none⟩) hlt
    simp only [RepAt] at h ⊢
    obtain ⟨h1, h2, a, c, h3, h4, h5⟩ := h
    refine ⟨by rw [e, e, e]; exact h1, h2, a, c, by rw [e]; exact h3, h4, h5.imp id ?_⟩
    rintro ⟨b', o', e', hs⟩
    exact ⟨b', o', e', RepsAt.of fun i hi => ih _ (List.getElem_mem hi) (hs.get hi)⟩
theorem RepRow.below {w w' : World} (hb : Below w.heap.size w w') {a : Option Addr} {n c : Nat} {l : List Rep} (h : RepRow w a n c l) : RepRow w' a n c l := by
  refine ⟨h.1, h.2.1, h.2.2.imp id ?_⟩
  rintro ⟨b, o, e, hs⟩
  exact ⟨b, o, e, RepsAt.of fun i hi => RepAt.below hb _ (hs.get hi)⟩
theorem RepV.below {w w' : World} (hb : Below w.heap.size w w') {r : Rep} {v : Value} (h : RepV w r v) : RepV w' r v := by
  obtain ⟨a, c, h1, h2, h3⟩ := h
  exact ⟨a, c, h1, h2, h3.below hb⟩
end Go.Proofs.YtpldbgdhflmjhaaDoor

/- Slices that a call has made, of elements of so many cells. -/
namespace Go.Proofs.YtpldbgdhflmjhaaDoor
set_option linter.unusedVariables false
set_option linter.unusedSimpArgs false
open Go.RowKit
/-- The slice value v holds n elements of z cells each, the cells xs; its row lies in a block from B on. -/
def SliceN (w : World) (B : Nat) (e : TypeId) (z : Nat) (v : Value) (n : Nat) (xs : List Value) : Prop :=
  xs.length = n * z ∧ ((v = .slice none 0 0 ∧ n = 0) ∨ ∃ g cap cur, v = .slice (some ⟨g, 0, none⟩) n cap ∧ B ≤ g ∧ RowAt w g e cur ∧ cur.size = cap * z ∧ n ≤ cap ∧ cap ≤ maxLen ∧ cur.toList.take (n * z) = xs)
theorem SliceN.nil (w : World) (B : Nat) (e : TypeId) (z : Nat) : SliceN w B e z (.slice none 0 0) 0 [] := ⟨by simp, .inl ⟨rfl, rfl⟩⟩
section
variable {w : World} {B : Nat} {e : TypeId} {z : Nat} {v : Value} {n : Nat} {xs : List Value}
theorem SliceN.chg (h : SliceN w B e z v n xs) {S : Nat → Prop} {w' : World} (hc : Chg S w w') (hn : ∀ k, vblock v = some k → ¬ S k) : SliceN w' B e z v n xs := by
  refine ⟨h.1, h.2.imp id ?_⟩
  rintro ⟨g, cap, cur, rfl, h2, h3, h4⟩
  exact ⟨g, cap, cur, rfl, h2, h3.keep hc (hn g rfl), h4⟩
theorem SliceN.below (h : SliceN w B e z v n xs) {w' : World} (hb : Below w.heap.size w w') : SliceN w' B e z v n xs := h.chg (Chg.of_below (fun _ => False) hb) fun _ _ => id
theorem SliceN.block_lt (h : SliceN w B e z v n xs) {k : Nat} (hk : vblock v = some k) : B ≤ k ∧ k < w.heap.size := by
  rcases h.2 with ⟨rfl, rfl⟩ | ⟨g, cap, cur, rfl, h2, h3, h4⟩
  · cases hk
  · cases hk; exact ⟨h2, h3.lt⟩
theorem SliceN.form (h : SliceN w B e z v n xs) : ∃ a cap, v = .slice a n cap ∧ n ≤ cap ∧ cap ≤ maxLen := by
  rcases h.2 with ⟨rfl, rfl⟩ | ⟨g, cap, cur, rfl, _, _, _, h5, h6, _⟩
  · exact ⟨none, 0, rfl, Nat.le_refl _, by unfold maxLen; omega⟩
  · exact ⟨_, cap, rfl, h5, h6⟩
theorem SliceN.mono (h : SliceN w B e z v n xs) {B' : Nat} (hB : B' ≤ B) : SliceN w B' e z v n xs := by
  refine ⟨h.1, h.2.imp id ?_⟩
  rintro ⟨g, cap, cur, rfl, h2, h3⟩
  exact ⟨g, cap, cur, rfl, Nat.le_trans hB h2, h3⟩
/-- A cell of it. -/
theorem SliceN.cell (h : SliceN w B e z v n xs) {g c m : Nat} (hv : v = .slice (some ⟨g, 0, none⟩) m c) {i : Nat} (hi : i < n * z) : w.cell? ⟨g, i, none⟩ = some (xs.getD i undef) := by
  rcases h.2 with ⟨rfl, rfl⟩ | ⟨g', cap, cur, rfl, _, h3, h4, h5, h6, h7⟩
  · cases hv
  · cases hv
    refine h3.cell ?_
    have e := congrArg (fun l => l[i]?) h7
    simp only [List.getElem?_take_of_lt hi, Array.getElem?_toList] at e
    have hl : i < xs.length := by rw [h.1]; exact hi
    rw [e]; simp [List.getD, hl]
theorem run_append_ownN {P : Program} {t ty : TypeId} {i : TypeInfo} {z0 : Value} {bytes : Nat} (ht : P.underlying t = some (.slice e)) (hi : P.info? e = some i) (hz : i.zero = some z0)
    (hsize : i.size = z) (hby : i.bytes = bytes) (hzs : z0.cells.size = z) (h : SliceN w B e z v n xs) (hB : B ≤ w.heap.size)
    (a : Addr) (m c : Nat) (news : List Value) (hm : 0 < m) (hl : news.length = m * z) (hnews : ∀ j u, news[j]? = some u → w.cell? (a.add j) = some u) (h1 : ∀ u ∈ news, u.oneCell' = true)
    (h63 : n + m ≤ maxLen) (hbytes : (n + m) * bytes ≤ 140737488355328) :
    ∃ v' w', (Builtin.append_ #[t, t] ty #[v, .slice (some a) m c]).run P w = .ok v' w' ∧ SliceN w' B e z v' (n + m) (xs ++ news) ∧ Chg (fun k => vblock v = some k) w w' ∧ (vblock v' = vblock v ∨ ∃ k, vblock v' = some k ∧ w.heap.size ≤ k) := by
  have fin : ∀ (g : Option Nat) (olds : List Value) v' w', g = vblock v → (∀ k, vblock v = some k → B ≤ k) → olds = xs → Appended w e z g olds news (n + m) v' w' → SliceN w' B e z v' (n + m) (xs ++ news) ∧ Chg (fun k => vblock v = some k) w w' ∧ (vblock v' = vblock v ∨ ∃ k, vblock v' = some k ∧ w.heap.size ≤ k) := by
    rintro g olds v' w' rfl hb rfl ⟨g', cap', cur', rfl, q1, q2, q3, q4, q5, q6, q7⟩
    refine ⟨⟨by rw [List.length_append, h.1, hl, Nat.add_mul], .inr ⟨g', cap', cur', rfl, ?_, q1, q2, q3, q4, q5⟩⟩, q7.mono fun k hk _ => hk.symm, q6.imp id fun h => ⟨g', rfl, h⟩⟩
    rcases q6 with q6 | q6
    · exact hb g' q6.symm
    · omega
  rcases h.2 with ⟨rfl, rfl⟩ | ⟨g, cap, cur, rfl, h2, h3, h4, h5, h6, h7⟩
  · obtain ⟨v', w', hr, hp⟩ := run_append_row_nil (P := P) w t ty e i z0 z bytes ht hi hz hsize hby hzs a m c news hm hl hnews (by omega) (by simpa using hbytes)
    have hx : [] = xs := (List.eq_nil_of_length_eq_zero (by rw [h.1]; simp)).symm
    refine ⟨v', w', hr, fin none [] v' w' rfl (fun k hk => by cases hk) hx ?_⟩
    rw [Nat.zero_add]; exact hp
  · obtain ⟨v', w', hr, hp⟩ := run_append_row (P := P) w t ty e i z0 z bytes ht hi hz hsize hby hzs g n cap cur h3 h4 h5 h6 a m c news hl hnews h1 h63 hbytes
    exact ⟨v', w', hr, fin (some g) _ v' w' rfl (fun k hk => by cases hk; exact h2) h7 hp⟩
/-- One element more, which the call has laid in a block of its own. -/
theorem run_append_oneN {P : Program} {t ty : TypeId} {i : TypeInfo} {z0 : Value} {bytes : Nat} (ht : P.underlying t = some (.slice e)) (hi : P.info? e = some i) (hz : i.zero = some z0)
    (hsize : i.size = z) (hby : i.bytes = bytes) (hzs : z0.cells.size = z) (h : SliceN w B e z v n xs) (hB : B ≤ w.heap.size) (us : List Value) (hu : us.length = z) (h1 : ∀ u ∈ us, u.oneCell' = true)
    (h63 : n + 1 ≤ maxLen) (hbytes : (n + 1) * bytes ≤ 140737488355328) :
    ∃ v' w', (Builtin.append_ #[t, t] ty #[v, .slice (some ⟨w.heap.size, 0, none⟩) 1 1]).run P (w.alloc (.cells us.toArray e)) = .ok v' w' ∧ SliceN w' B e z v' (n + 1) (xs ++ us) ∧ Chg (fun k => vblock v = some k) w w' ∧ (vblock v' = vblock v ∨ ∃ k, vblock v' = some k ∧ w.heap.size ≤ k) := by
  have hb : Below w.heap.size w (w.alloc (.cells us.toArray e)) := (Below.refl _ _).alloc (Nat.le_refl _) _
  obtain ⟨v', w', hr, h2, h3, h4⟩ := run_append_ownN (P := P) (ty := ty) ht hi hz hsize hby hzs (h.below hb) (by simp; omega) ⟨w.heap.size, 0, none⟩ 1 1 us (by omega) (by omega) (fun j x hx => by
    rw [Addr.add_lit, Nat.zero_add]
    refine cell_in (heap_new w _) ?_
    simpa using hx) h1 h63 hbytes
  exact ⟨v', w', hr, h2, (Chg.alloc (fun k => vblock v = some k) w _).trans h3 fun k hk _ => hk, h4.imp id fun ⟨k, e, hk⟩ => ⟨k, e, by simp at hk; omega⟩⟩
end
end Go.Proofs.YtpldbgdhflmjhaaDoor

/- Replies in memory: a row of them that a call makes; copies with a mark behind. -/
namespace Go.Proofs.YtpldbgdhflmjhaaDoor
set_option linter.unusedVariables false
set_option linter.unusedSimpArgs false
open Go.RowKit
/-- A reply's cells, and where its list is. -/
structure RC where
  r : Rep
  a : Option Addr
  c : Nat
def repC (x : RC) : List Value := [.int .u8 x.r.k, .string x.r.t, .int .i64 x.r.n, .slice x.a x.r.l.length x.c]
theorem flatR : ∀ (A : List RC) (i : Nat) (h : i < A.length) (j : Nat), j < 4 → (A.flatMap repC).getD (i * 4 + j) undef = (repC A[i]).getD j undef
  | p :: A, 0, _, j, hj => by
    simp only [List.flatMap_cons, List.getD, Nat.zero_mul, Nat.zero_add, List.getElem_cons_zero]
    rw [List.getElem?_append_left (by simp [repC]; exact hj)]
  | p :: A, i + 1, h, j, hj => by
    have := flatR A i (by simpa using h) j hj
    simp only [List.flatMap_cons, List.getD, List.getElem_cons_succ] at this ⊢
    rw [List.getElem?_append_right (by simp [repC]; omega), show (i + 1) * 4 + j - (repC p).length = i * 4 + j by simp [repC]; omega]
    exact this
theorem flatR_len : ∀ (A : List RC), (A.flatMap repC).length = A.length * 4
  | [] => rfl
  | p :: A => by rw [List.flatMap_cons, List.length_append, flatR_len A]; simp [repC]; omega
abbrev RcOk (r : Rep) : Prop := (0 ≤ r.k ∧ r.k ≤ 255) ∧ (-9223372036854775808 ≤ r.n ∧ r.n ≤ 9223372036854775807)
def spareB : ByteArray := ⟨#[115, 112, 97, 114, 101]⟩
def spareR : Rep := .mk 0 spareB 0 []
mutual
/-- The list of a reply, at this address and of this capacity, is a copy with a mark behind, all of it in blocks of Q. -/
def TwinL (w : World) (Q : Nat → Prop) : Rep → Option Addr → Nat → Prop
  | .mk _ _ _ l, a, c => ∃ g, a = some ⟨g, 0, none⟩ ∧ Q g ∧ (l.length + 1 ≤ c ∧ c ≤ maxLen) ∧ TwinsAt w Q l g 0 ∧ ∀ j, j < 4 → w.cell? ⟨g, l.length * 4 + j, none⟩ = some ((repC ⟨spareR, none, 0⟩).getD j undef)
def TwinsAt (w : World) (Q : Nat → Prop) : List Rep → Nat → Nat → Prop
  | [], _, _ => True
  | r :: l, g, o => (RcOk r ∧ ∃ a c, (∀ j, j < 4 → w.cell? ⟨g, o + j, none⟩ = some ((repC ⟨r, a, c⟩).getD j undef)) ∧ TwinL w Q r a c) ∧ TwinsAt w Q l g (o + 4)
end
theorem TwinsAt.get {w : World} {Q : Nat → Prop} : ∀ {l : List Rep} {g o : Nat}, TwinsAt w Q l g o → ∀ {i : Nat} (h : i < l.length), RcOk l[i] ∧ ∃ a c, (∀ j, j < 4 → w.cell? ⟨g, o + i * 4 + j, none⟩ = some ((repC ⟨l[i], a, c⟩).getD j undef)) ∧ TwinL w Q l[i] a c
  | r :: l, g, o, h, 0, _ => by
    simp only [TwinsAt] at h
    rw [Nat.zero_mul, Nat.add_zero]
    exact h.1
  | r :: l, g, o, h, i + 1, hi => by
    simp only [TwinsAt] at h
    have := TwinsAt.get h.2 (i := i) (by simpa using hi)
    rw [show o + (i + 1) * 4 = o + 4 + i * 4 by omega]
    exact this
  | [], _, _, _, _, hi => absurd hi (by simp)
theorem TwinsAt.of {w : World} {Q : Nat → Prop} : ∀ {l : List Rep} {g o : Nat}, (∀ i (h : i < l.length), RcOk l[i] ∧ ∃ a c, (∀ j, j < 4 → w.cell? ⟨g, o + i * 4 + j, none⟩ = some ((repC ⟨l[i], a, c⟩).getD j undef)) ∧ TwinL w Q l[i] a c) → TwinsAt w Q l g o
  | [], _, _, _ => by simp only [TwinsAt]
  | r :: l, g, o, h => by
    simp only [TwinsAt]
    have h0 := h 0 (by simp)
    rw [Nat.zero_mul, Nat.add_zero] at h0
    refine ⟨h0, TwinsAt.of fun i hi => ?_⟩
    have := h (i + 1) (by simpa using hi)
    rw [show o + 4 + i * 4 = o + (i + 1) * 4 by omega]
    exact this
theorem TwinL.parts {w : World} {Q : Nat → Prop} {r : Rep} {a : Option Addr} {c : Nat} (h : TwinL w Q r a c) : ∃ g, a = some ⟨g, 0, none⟩ ∧ Q g ∧ (r.l.length + 1 ≤ c ∧ c ≤ maxLen) ∧ g < w.heap.size ∧ (∀ i (h : i < r.l.length), RcOk r.l[i] ∧ ∃ a c, (∀ j, j < 4 → w.cell? ⟨g, i * 4 + j, none⟩ = some ((repC ⟨r.l[i], a, c⟩).getD j undef)) ∧ TwinL w Q r.l[i] a c) ∧ ∀ j, j < 4 → w.cell? ⟨g, r.l.length * 4 + j, none⟩ = some ((repC ⟨spareR, none, 0⟩).getD j undef) := by
  obtain ⟨k, t, n, l⟩ := r
  simp only [TwinL] at h
  obtain ⟨g, h1, h2, h3, h4, h5⟩ := h
  refine ⟨g, h1, h2, h3, World.block_lt_of_cell? w _ (h5 0 (by omega)), fun i hi => ?_, h5⟩
  have := h4.get (i := i) hi
  rw [Nat.zero_add] at this
  exact this
theorem TwinL.mk {w : World} {Q : Nat → Prop} {r : Rep} {c g : Nat} (h2 : Q g) (h3 : r.l.length + 1 ≤ c ∧ c ≤ maxLen) (h4 : ∀ i (h : i < r.l.length), RcOk r.l[i] ∧ ∃ a c, (∀ j, j < 4 → w.cell? ⟨g, i * 4 + j, none⟩ = some ((repC ⟨r.l[i], a, c⟩).getD j undef)) ∧ TwinL w Q r.l[i] a c)
    (h5 : ∀ j, j < 4 → w.cell? ⟨g, r.l.length * 4 + j, none⟩ = some ((repC ⟨spareR, none, 0⟩).getD j undef)) : TwinL w Q r (some ⟨g, 0, none⟩) c := by
  obtain ⟨k, t, n, l⟩ := r
  simp only [TwinL]
  refine ⟨g, rfl, h2, h3, TwinsAt.of fun i hi => ?_, h5⟩
  rw [Nat.zero_add]
  exact h4 i hi
theorem TwinL.chg {w w' : World} {Q Q' S : Nat → Prop} (hc : Chg S w w') (hs : ∀ b, b < w.heap.size → Q b → Q' b ∧ ¬ S b) (r : Rep) : ∀ {a : Option Addr} {c : Nat}, TwinL w Q r a c → TwinL w' Q' r a c := by
  induction r using Rep.ind with
  | h k t n l ih =>
    intro a c h
    obtain ⟨g, rfl, h2, h3, hlt, h4, h5⟩ := h.parts
    have hg := hs g hlt h2
    have e : ∀ x v, w.cell? ⟨g, x, none⟩ = some v → w'.cell? ⟨g, x, none⟩ = some v := fun x v hv => by
      rw [← hv]; unfold World.cell?; rw [hc.block g hlt hg.2]
    refine TwinL.mk hg.1 h3 (fun i hi => ?_) fun j hj => e _ _ (h5 j hj)
    obtain ⟨h6, a, c, h7, h8⟩ := h4 i hi
    exact ⟨h6, a, c, fun j hj => e _ _ (h7 j hj), ih _ (List.getElem_mem hi) h8⟩
theorem TwinL.row {w : World} {Q : Nat → Prop} (r : Rep) : ∀ {a : Option Addr} {c : Nat}, TwinL w Q r a c → RepRow w a r.l.length c r.l := by
  induction r using Rep.ind with
  | h k t n l ih =>
    intro a c h
    obtain ⟨g, rfl, h2, h3, hlt, h4, h5⟩ := h.parts
    refine ⟨rfl, by omega, .inr ⟨g, 0, rfl, RepsAt.of fun i hi => ?_⟩⟩
    obtain ⟨h6, a, c, h7, h8⟩ := h4 i hi
    rw [Nat.zero_add]
    exact RepAt.of ⟨h7 0 (by omega), h7 1 (by omega), h7 2 (by omega)⟩ h6 (h7 3 (by omega)) (ih _ (List.getElem_mem hi) h8)
end Go.Proofs.YtpldbgdhflmjhaaDoor

/- The laws' helpers on texts: Beyond, TextsSize, SameTexts; opening a slice of texts. -/
namespace Go.Proofs.YtpldbgdhflmjhaaDoor
set_option linter.unusedVariables false
set_option linter.unusedSimpArgs false
open Go.RowKit
set_option maxHeartbeats 800000 in
theorem beyond_any (w : World) (a : Option Addr) (len cap : Nat) (zs : List Nat) (hlen : zs.length = len) (ha : ArgRow w a len cap fun i => .int .i64 (zs.getD i 0 : Nat)) (hz : ∀ x ∈ zs, x ≤ 140737488355328) (hm : len ≤ 1000000000) :
    Calls Tryd.prog 8 #[.slice a len cap] w fun e w' => e = .returned (.bool (decide (1048576 < zs.sum))) ∧ w = w' := by
  have HA := Lib.hid ha
  have HL := Lib.hid hlen
  have HZ := Lib.hid hz
  have hlc := ha.1
  clear ha hlen hz
  go_enter Tryd.func8, Tryd.ntmps8
  go_wp2_with fail
  go_loop [3, 4] (fun n i => ∃ k : Nat, k ≤ len ∧ i = .int .i64 k ∧ n = .int .i64 ((zs.take k).sum : Nat) ∧ (zs.take k).sum ≤ 1048576) (fun _ i => len - (intOf i).toNat)
  case atStart => exact ⟨0, Nat.zero_le _, rfl, rfl, by simp⟩
  case round =>
    obtain ⟨k, hk, rfl, rfl, hI⟩ := hrel
    by_cases hlt : k < len
    · obtain ⟨b, o, hb, hc⟩ := HA.out.2.resolve_left (by omega)
      subst hb
      have hcell : w.cell? ⟨b, o + k, none⟩ = some (.int .i64 (zs.getD k 0 : Nat)) := hc k hlt
      have hkl : k < zs.length := by rw [HL.out]; exact hlt
      have htk : (zs.take (k + 1)).sum = (zs.take k).sum + zs.getD k 0 := by rw [List.take_succ_eq_append_getElem hkl, List.sum_append, List.sum_cons, List.sum_nil]; simp [List.getD, hkl]
      have hzk := HZ.out (zs.getD k 0) (by simp [List.getD, hkl])
      have htot : (zs.take (k + 1)).sum ≤ zs.sum := by
        have := congrArg List.sum (List.take_append_drop (k + 1) zs)
        rw [List.sum_append] at this
        omega
      have HT := Lib.hid (And.intro htk htot)
      clear htk htot hc
      generalize zs.getD k 0 = y at *
      generalize (zs.take k).sum = q at *
      by_cases hgt : 1048576 < q + y
      · have e1 : decide ((1048576 : Int) < (q : Int) + (y : Int)) = true := by simp; omega
        have hr : decide (1048576 < zs.sum) = true := by have := HT.out; simp; omega
        have HR := Lib.hid hr
        clear hr
        go_wp2_with fail
        go_ret
        exact ⟨ret1 (by rw [HR.out]; rfl), rfl⟩
      · have e1 : decide ((1048576 : Int) < (q : Int) + (y : Int)) = false := by simp; omega
        go_wp2_with fail
        go_round
        case rel => exact ⟨k + 1, by omega, by go_num, by rw [HT.out.1]; go_num, by rw [HT.out.1]; omega⟩
        case measure => simp [intOf]; omega
    · have : k = len := by omega
      subst this
      have hr : decide (1048576 < zs.sum) = false := by rw [← HL.out, List.take_length] at hI; simp; omega
      have HR := Lib.hid hr
      clear hr
      go_wp2_with fail
      go_ret
      exact ⟨ret1 (by rw [HR.out]; rfl), rfl⟩

theorem ArgRow.belowT {w w' : World} {a : Option Addr} {n c : Nat} {f : Nat → Value} (h : ArgRow w a n c f) (hb : Below w.heap.size w w') : ArgRow w' a n c f := by
  refine ⟨h.1, h.2.imp id ?_⟩
  rintro ⟨b, o, e, hc⟩
  exact ⟨b, o, e, fun i hi => by rw [hb.cell (World.block_lt_of_cell? w _ (hc i hi))]; exact hc i hi⟩
/-- How much texts have in them. -/
def totalT (zs : List ByteArray) : Nat := zs.length + (zs.map ByteArray.size).sum
theorem total_take (zs : List ByteArray) (k : Nat) : ((zs.take k).map ByteArray.size).sum ≤ (zs.map ByteArray.size).sum := by
  have := congrArg (fun l => (l.map ByteArray.size).sum) (List.take_append_drop k zs)
  simp only [List.map_append, List.sum_append] at this
  omega
theorem total_mem {zs : List ByteArray} {s : ByteArray} (h : s ∈ zs) : s.size + zs.length ≤ totalT zs := by
  unfold totalT
  have : s.size ≤ (zs.map ByteArray.size).sum := by
    induction zs with
    | nil => cases h
    | cons z zs ih =>
      simp only [List.map_cons, List.sum_cons]
      rcases List.mem_cons.1 h with rfl | h
      · omega
      · have := ih h; omega
  omega
set_option maxHeartbeats 800000 in
theorem textsSize_any (w : World) (a : Option Addr) (len cap : Nat) (zs : List ByteArray) (hlen : zs.length = len) (ha : ArgRow w a len cap fun i => .string (zs.getD i ByteArray.empty)) (ht : totalT zs ≤ 1048576) :
    Calls Tryd.prog 10 #[.slice a len cap] w fun e w' => e = .returned (.int .i64 (totalT zs)) ∧ w = w' := by
  have HA := Lib.hid ha
  have HL := Lib.hid hlen
  have hlc := ha.1
  have HT := Lib.hid (show ∀ k, len + ((zs.take k).map ByteArray.size).sum ≤ 1048576 from fun k => by have := total_take zs k; unfold totalT at ht; omega)
  have hln : len ≤ 1048576 := by unfold totalT at ht; omega
  have HF := Lib.hid (show totalT zs = len + ((zs.take len).map ByteArray.size).sum by unfold totalT; rw [List.take_of_length_le (by omega), hlen])
  clear ha hlen ht
  go_enter Tryd.func10, Tryd.ntmps10
  go_wp2_with fail
  go_loop [3, 4] (fun n i => ∃ k : Nat, k ≤ len ∧ i = .int .i64 k ∧ n = .int .i64 ((len + ((zs.take k).map ByteArray.size).sum : Nat) : Int)) (fun _ i => len - (intOf i).toNat)
  case atStart => exact ⟨0, Nat.zero_le _, rfl, by simp⟩
  case round =>
    obtain ⟨k, hk, rfl, rfl⟩ := hrel
    have hT := HT.out k
    by_cases hlt : k < len
    · obtain ⟨b, o, hb, hc⟩ := HA.out.2.resolve_left (by omega)
      subst hb
      have hcell : w.cell? ⟨b, o + k, none⟩ = some (.string (zs.getD k ByteArray.empty)) := hc k hlt
      have hkl : k < zs.length := by rw [HL.out]; exact hlt
      have HN := Lib.hid (show len + ((zs.take (k + 1)).map ByteArray.size).sum = len + ((zs.take k).map ByteArray.size).sum + (zs.getD k ByteArray.empty).size by
        have e : zs.getD k ByteArray.empty = zs[k] := by simp [List.getD, hkl]
        rw [List.take_succ_eq_append_getElem hkl, List.map_append, List.sum_append, List.map_cons, List.map_nil, List.sum_cons, List.sum_nil, e]; omega)
      have hT1 := HT.out (k + 1)
      rw [HN.out] at hT1
      clear hc
      generalize zs.getD k ByteArray.empty = y at *
      generalize hq : len + ((zs.take k).map ByteArray.size).sum = q at *
      have hd : decide ((q : Int) ≤ 1048576) = true := by simp; omega
      clear hq
      go_wp2_with fail
      go_round
      case rel => exact ⟨k + 1, by omega, by go_num, by rw [HN.out]; go_num⟩
      case measure => simp [intOf]; omega
    · obtain rfl : k = len := by omega
      generalize hq : k + ((zs.take k).map ByteArray.size).sum = q at *
      go_wp2_with fail
      go_ret
      exact ⟨ret1 (by rw [HF.out, ← hq]; rfl), rfl⟩
set_option maxHeartbeats 1600000 in
set_option maxRecDepth 100000 in
theorem sameTexts_any (w : World) (a b : Option Addr) (n m ca cb : Nat) (xs ys : List ByteArray) (hn : xs.length = n) (hm : ys.length = m) (ha : ArgRow w a n ca fun i => .string (xs.getD i ByteArray.empty)) (hb : ArgRow w b m cb fun i => .string (ys.getD i ByteArray.empty)) (hs : n ≤ 1000000000 ∧ m ≤ 1000000000) :
    Calls Tryd.prog 56 #[.slice a n ca, .slice b m cb] w fun e w' => e = .returned (.bool (decide (xs = ys))) ∧ ∃ k, w' = w.drewN k := by
  have HA := Lib.hid ha
  have HB := Lib.hid hb
  have hac := ha.1
  have hbc := hb.1
  clear ha hb
  by_cases hnm : n = m
  · subst hnm
    have HL := Lib.hid (And.intro hn hm)
    have hne : ((n : Int) != (n : Int)) = false := by simp
    obtain ⟨r, hr⟩ : ∃ r, decide (xs = ys) = r := ⟨_, rfl⟩
    rw [hr]
    have HR := Lib.hid hr
    clear hn hm hr
    go_enter Tryd.func56, Tryd.ntmps56
    go_wp2_with fail
    go_loopw [5] (fun i wr => ∃ k : Nat, k ≤ n ∧ i = .int .i64 k ∧ (∃ d, wr = w.drewN d) ∧ Hid (xs.take k = ys.take k)) (fun i _ => n - (intOf i).toNat)
    case atStart => exact ⟨0, Nat.zero_le _, rfl, ⟨0, rfl⟩, Lib.hid (by simp)⟩
    case round =>
      obtain ⟨k, hk, rfl, ⟨d, rfl⟩, hI⟩ := hrel
      by_cases hlt : k < n
      · obtain ⟨ab, ao, rfl, hca⟩ := HA.out.2.resolve_left (by omega)
        obtain ⟨bb, bo, rfl, hcb⟩ := HB.out.2.resolve_left (by omega)
        have c1 : (w.drewN d).cell? ⟨ab, ao + k, none⟩ = some (.string (xs.getD k ByteArray.empty)) := hca k hlt
        have c2 : (w.drewN d).cell? ⟨bb, bo + k, none⟩ = some (.string (ys.getD k ByteArray.empty)) := hcb k hlt
        have hkx : k < xs.length := by rw [HL.out.1]; exact hlt
        have hky : k < ys.length := by rw [HL.out.2]; exact hlt
        have HNx := Lib.hid (show xs.getD k ByteArray.empty = ys.getD k ByteArray.empty → xs.take (k + 1) = ys.take (k + 1) from fun h => by
          rw [List.take_succ_eq_append_getElem hkx, List.take_succ_eq_append_getElem hky, hI.out]
          simp only [List.getD, List.getElem?_eq_getElem hkx, List.getElem?_eq_getElem hky, Option.getD_some] at h
          rw [h])
        have HNo := Lib.hid (show xs.getD k ByteArray.empty ≠ ys.getD k ByteArray.empty → r = false from fun h => by
          rw [← HR.out]; exact decide_eq_false (fun e => h (by rw [e])))
        obtain ⟨X1, f, hX1, hf, hF⟩ := classOf (fun x => x.cell? ⟨ab, ao + k, none⟩ = some (.string (xs.getD k ByteArray.empty)) ∧ x.cell? ⟨bb, bo + k, none⟩ = some (.string (ys.getD k ByteArray.empty))) ⟨c1, c2⟩
        have HF := Lib.hid (hF (w.drewN d).drew ⟨c1, c2⟩)
        generalize xs.getD k ByteArray.empty = x at *
        generalize ys.getD k ByteArray.empty = y at *
        have hf1 := fun x => (hf x).1
        have hf2 := fun x => (hf x).2
        clear hF hf hca hcb c1 c2 hI
        by_cases hxy : x = y
        · have hq : (x.toList == y.toList) = true := by rw [hxy]; exact beq_self_eq_true _
          have HXY := Lib.hid (HNx.out hxy)
          clear hxy
          go_wp2_with fail
          refine wp_region_text ⟨[], [], 9⟩ (fun w' => ∃ x : X1, w' = f x) (by kernel_rfl) (by kernel_rfl) HF.out ?_
          refine wpC_seg false (HF.out) 9 0 _ _ (by rfl) (by rfl) ?_
          simp only [List.take_succ_cons, List.take_zero, List.drop_succ_cons, List.drop_zero, Bool.false_eq_true, if_false, Nat.zero_add, Nat.reduceAdd]
          repeat (go_big_quiet_step (fail))
          refine wpQuiet_nil ?_
          refine wpC_nil ?_
          clear hf1 hf2 hX1 HF
          go_wp2_with fail
          go_roundw
          case rel => exact ⟨k + 1, by omega, by go_num, ⟨d + 1, rfl⟩, HXY⟩
          case measure => simp [intOf]; omega
        · have hq : (x.toList == y.toList) = false := by
            rw [beq_eq_false_iff_ne, ne_eq, ByteArray.toList_eq, ByteArray.toList_eq]
            exact fun e => hxy (ByteArray.ext (Array.toList_inj.1 e))
          have HRf := Lib.hid (HNo.out hxy)
          clear hxy
          go_wp2_with fail
          refine wp_region_text ⟨[], [], 9⟩ (fun w' => ∃ x : X1, w' = f x) (by kernel_rfl) (by kernel_rfl) HF.out ?_
          refine wpC_seg false (HF.out) 9 0 _ _ (by rfl) (by rfl) ?_
          simp only [List.take_succ_cons, List.take_zero, List.drop_succ_cons, List.drop_zero, Bool.false_eq_true, if_false, Nat.zero_add, Nat.reduceAdd]
          repeat (go_big_quiet_step (fail))
          refine wpQuiet_nil ?_
          refine wpC_nil ?_
          clear hf1 hf2 hX1 HF
          go_wp2_with fail
          go_ret
          exact ⟨ret1 (by rw [HRf.out]; rfl), d + 1, rfl⟩
      · obtain rfl : k = n := by omega
        have HRt := Lib.hid (show r = true by
          have h := hI.out
          rw [List.take_of_length_le (by have := HL.out.1; omega), List.take_of_length_le (by have := HL.out.2; omega)] at h
          rw [← HR.out]; exact decide_eq_true h)
        clear hI
        go_wp2_with fail
        go_ret
        exact ⟨ret1 (by rw [HRt.out]; rfl), d, rfl⟩
  · have hne : ((n : Int) != (m : Int)) = true := by simp only [bne_iff_ne, ne_eq]; omega
    have hr : decide (xs = ys) = false := decide_eq_false (fun e => hnm (by rw [← hn, ← hm, e]))
    rw [hr]
    go_enter Tryd.func56, Tryd.ntmps56
    go_wp2_with fail
    go_ret
    exact ⟨rfl, 0, rfl⟩
end Go.Proofs.YtpldbgdhflmjhaaDoor

/- ReplySize, RepliesSize. -/
namespace Go.Proofs.YtpldbgdhflmjhaaDoor
set_option linter.unusedVariables false
set_option linter.unusedSimpArgs false
open Go.RowKit
abbrev SizeOk (r : Rep) : Prop := ∀ (w : World) (v : Value), RepV w r v → sizeR r ≤ 1048576 → Calls Tryd.prog 9 #[v] w fun e w' => e = .returned (.int .i64 (sizeR r : Nat)) ∧ Below w.heap.size w w'
/-- A reply's cells as a loop meets them. -/
theorem RepRow.cells {w : World} {a : Option Addr} {n c : Nat} {l : List Rep} (h : RepRow w a n c l) {i : Nat} (hi : i < n) : ∃ b o r a' c', a = some ⟨b, o, none⟩ ∧ l[i]? = some r ∧ (w.cell? ⟨b, o + i * 4, none⟩ = some (.int .u8 r.k) ∧ w.cell? ⟨b, o + i * 4 + 1, none⟩ = some (.string r.t) ∧ w.cell? ⟨b, o + i * 4 + 2, none⟩ = some (.int .i64 r.n) ∧ w.cell? ⟨b, o + i * 4 + 3, none⟩ = some (.slice a' r.l.length c')) ∧ RepV w r (.agg #[.int .u8 r.k, .string r.t, .int .i64 r.n, .slice a' r.l.length c']) := by
  obtain ⟨b, o, r, e, hr, hat⟩ := h.get hi
  obtain ⟨⟨h1, h2, h3⟩, h4, a', c', h5, h6⟩ := hat.val
  exact ⟨b, o, r, a', c', e, hr, ⟨h1, h2, h3, h5⟩, a', c', rfl, h4, h6⟩
set_option maxHeartbeats 1600000 in
set_option maxRecDepth 100000 in
theorem repliesSize_of {l : List Rep} (ih : ∀ r ∈ l, SizeOk r) {w : World} {a : Option Addr} {n c : Nat} (h : RepRow w a n c l) (hs : n + sizeL l ≤ 1048576) :
    Calls Tryd.prog 25 #[.slice a n c] w fun e w' => e = .returned (.int .i64 ((n + sizeL l : Nat) : Int)) ∧ Below w.heap.size w w' := by
  have hnc := h.2.1
  have HL := Lib.hid h.1
  have HR := Lib.hid h
  have HI := Lib.hid ih
  have hk : ∀ k, n + sizeL (l.take k) ≤ 1048576 := fun k => by
    have := sizeL_append (l.take k) (l.drop k)
    rw [List.take_append_drop] at this
    omega
  have HK := Lib.hid hk
  have HT := Lib.hid (show sizeL (l.take n) = sizeL l by rw [List.take_of_length_le (by rw [h.1]; omega)])
  have hn6 : n ≤ 1048576 := by omega
  clear h ih hs hk
  go_enter Tryd.func25, Tryd.ntmps25
  go_wp2_with fail
  go_loopw [3, 4] (fun m i wr => ∃ k : Nat, k ≤ n ∧ i = .int .i64 k ∧ m = .int .i64 ((n + sizeL (l.take k) : Nat) : Int) ∧ Hid (Below w.heap.size w wr)) (fun _ i _ => n - (intOf i).toNat)
  case atStart => exact ⟨0, Nat.zero_le _, rfl, by simp [sizeL], Lib.hid (Below.refl _ _)⟩
  case round =>
    obtain ⟨k, hk, rfl, rfl, hI⟩ := hrel
    have hT := HK.out k
    by_cases hlt : k < n
    · obtain ⟨b, o, r, a', c', rfl, hr, ⟨c0, c1, c2, c3⟩, hv⟩ := (HR.out.below hI.out).cells hlt
      obtain ⟨hkl, hr'⟩ := List.getElem?_eq_some_iff.1 hr
      have htk : n + sizeL (l.take (k + 1)) = n + sizeL (l.take k) + sizeR r := by
        rw [List.take_succ_eq_append_getElem hkl, sizeL_append, hr']; simp [sizeL]; omega
      have hT1 := HK.out (k + 1)
      rw [htk] at hT1
      have HTk := Lib.hid htk
      have HC := Lib.hid (HI.out r (List.mem_of_getElem? hr) wr _ hv (by omega))
      clear hv hr hkl hr' htk
      obtain ⟨q, hq⟩ : ∃ q, n + sizeL (l.take k) = q := ⟨_, rfl⟩
      rw [hq] at hT hT1 HTk
      obtain ⟨z, hz⟩ : ∃ z, sizeR r = z := ⟨_, rfl⟩
      rw [hz] at hT1 HTk HC
      rw [hq]
      clear hq hz
      have hd : decide ((q : Int) ≤ 1048576) = true := by simp; omega
      have j1 : (k : Int) < (n : Int) := by omega
      go_wp2_with fail
      refine HC.out.mono ?_
      rintro e w2 ⟨rfl, b2⟩
      have HB := Lib.hid (hI.out.trans (b2.mono hI.out.size))
      clear b2 c0 c1 c2 c3
      go_wp2_with fail
      go_roundw
      case rel => exact ⟨k + 1, by omega, by go_num, by rw [HTk.out]; go_num, HB⟩
      case measure => simp [intOf]; omega
    · obtain rfl : n = k := by omega
      obtain ⟨q, hq⟩ : ∃ q, n + sizeL (l.take n) = q := ⟨_, rfl⟩
      rw [hq]
      have HQ := Lib.hid (show n + sizeL l = q by rw [← hq, HT.out])
      clear hq hT hlt
      go_wp2_with fail
      go_ret
      exact ⟨ret1 (by rw [HQ.out]; rfl), hI.out⟩
set_option maxHeartbeats 1600000 in
set_option maxRecDepth 100000 in
theorem replySize_any (r : Rep) : SizeOk r := by
  induction r using Rep.ind with
  | h k t n l ih =>
    rintro w v ⟨a, c, rfl, hok, hrow⟩ hs
    dsimp only [Rep.k, Rep.t, Rep.n, Rep.l] at *
    obtain ⟨w1, hw1⟩ : ∃ w1, w1 = w.alloc (.cells #[.int .u8 k, .string t, .int .i64 n, .slice a l.length c] 25) := ⟨_, rfl⟩
    have hb1 : Below w.heap.size w w1 := by rw [hw1]; exact (Below.refl _ _).alloc (Nat.le_refl _) _
    have k1 : w1.heap[w.heap.size]? = some (.cells #[.int .u8 k, .string t, .int .i64 n, .slice a l.length c] 25 (0, 0)) := by rw [hw1]; exact heap_new _ _
    simp only [sizeR] at hs
    have HC := Lib.hid (fun w' (hb : Below w.heap.size w w') => repliesSize_of ih (hrow.below hb) (by omega))
    have hsz : sizeR (.mk k t n l) = 1 + t.size + (l.length + sizeL l) := by simp only [sizeR]
    rw [hsz]
    obtain ⟨m, hm⟩ : ∃ m, l.length = m := ⟨_, rfl⟩
    rw [hm] at k1 hs HC hw1 ⊢
    obtain ⟨q, hq⟩ : ∃ q, m + sizeL l = q := ⟨_, rfl⟩
    rw [hq] at HC hs ⊢
    have HW := Lib.hid hw1
    have HB := Lib.hid hb1
    have hst : ∀ w', Below w1.heap.size w1 w' → w'.cell? ⟨w.heap.size, 1, none⟩ = some (.string t) ∧ w'.cell? ⟨w.heap.size, 3, none⟩ = some (.slice a m c) := fun w' hb => by
      have e := (hb.block _ (heap_lt k1)).trans k1
      exact ⟨cell_in e rfl, cell_in e rfl⟩
    have HSt := Lib.hid hst
    obtain ⟨X1, f, hX1, hf, hF⟩ := classOf (fun w' => w'.cell? ⟨w.heap.size, 1, none⟩ = some (.string t) ∧ w'.cell? ⟨w.heap.size, 3, none⟩ = some (.slice a m c)) (w := w1.drew) (hst _ (belowN (Below.refl _ _) 1))
    have f1 := fun x => (hf x).1
    have f2 := fun x => (hf x).2
    have HFa := Lib.hid (hF w1.drew (hst _ (belowN (Below.refl _ _) 1)))
    have HF := Lib.hid hF
    clear hst hF hf hrow ih hok hw1 hb1 k1 hsz hm hq
    go_enter Tryd.func9, Tryd.ntmps9
    go_wp2_with fail
    rw [← HW.out]
    refine wp_region_text ⟨[6], [], 9⟩ (fun w' => ∃ x : X1, w' = f x) (by kernel_rfl) (by kernel_rfl) HFa.out ?_
    refine wpC_seg false (HFa.out) 6 0 _ _ (by rfl) (by rfl) ?_
    simp only [List.take_succ_cons, List.take_zero, List.drop_succ_cons, List.drop_zero, Bool.false_eq_true, if_false, Nat.zero_add, Nat.reduceAdd]
    repeat (go_big_quiet_step (fail))
    refine wpQuiet_nil ?_
    refine wpC_loud (by rfl) (by rfl) fun K hK => ?_
    go_wp2_with fail
    refine (HC.out _ (belowN HB.out 1)).mono ?_
    rintro e w2 ⟨rfl, b2⟩
    have HB2 := Lib.hid ((belowN HB.out 1).trans (b2.mono (belowN HB.out 1).size))
    have HF2 := Lib.hid (HF.out w2 (HSt.out w2 ((belowN (Below.refl _ _) 1).trans b2)))
    refine hK _ _ (fun _ => HF2.out) ?_
    clear hK b2
    refine wpC_seg false (HF2.out) 2 7 _ _ (by rfl) (by rfl) ?_
    simp only [List.take_succ_cons, List.take_zero, List.drop_succ_cons, List.drop_zero, Bool.false_eq_true, if_false, Nat.zero_add, Nat.reduceAdd]
    repeat (go_big_quiet_step (fail))
    refine wpQuiet_nil ?_
    refine wpC_nil ?_
    clear f1 f2 hX1 HFa HF HF2 f
    go_wp2_with fail
    go_ret
    exact ⟨ret1 (by go_num), HB2.out⟩
end Go.Proofs.YtpldbgdhflmjhaaDoor

/- resp.may: of a reply without a list. -/
namespace Go.Proofs.YtpldbgdhflmjhaaDoor
set_option linter.unusedVariables false
set_option linter.unusedSimpArgs false
open Go.RowKit
/-- The cells that may lays: the reply, the depth. -/
def mayW (w : World) (k : Int) (t : ByteArray) (n : Int) (a : Option Addr) (m c : Nat) (d : Int) : World := (w.alloc (.cells #[.int .u8 k, .string t, .int .i64 n, .slice a m c] 25)).alloc (.cells #[.int .i64 d] 3)
theorem mayW_facts {w w1 : World} {k : Int} {t : ByteArray} {n : Int} {a : Option Addr} {m c : Nat} {d : Int} (hw1 : w1 = mayW w k t n a m c d) : Below w.heap.size w w1 ∧ w1.heap.size = w.heap.size + 2 ∧ w1.heap[w.heap.size]? = some (.cells #[.int .u8 k, .string t, .int .i64 n, .slice a m c] 25 (0, 0)) ∧ w1.heap[w.heap.size + 1]? = some (.cells #[.int .i64 d] 3 (0, 0)) := by
  rw [hw1]
  refine ⟨((Below.refl _ _).alloc (Nat.le_refl _) _).alloc (by simp) _, by simp [mayW], heap_old (heap_new _ _) _, ?_⟩
  have := heap_new (w.alloc (.cells #[.int .u8 k, .string t, .int .i64 n, .slice a m c] 25)) (.cells #[.int .i64 d] 3)
  rw [World.size_alloc] at this
  exact this
theorem own_facts {w w1 w2 : World} {k : Int} {cs : Array Value} (hb1 : Below w.heap.size w w1) (hs1 : w1.heap.size = w.heap.size + 2) (k1 : w1.heap[w.heap.size]? = some (.cells cs 25 (0, 0))) (hw2 : w2 = w1.alloc (.cells #[.int .u8 k, .string ⟨#[]⟩, .int .i64 0, .slice none 0 0] 25)) :
    Below w.heap.size w w2 ∧ w2.heap[w.heap.size]? = some (.cells cs 25 (0, 0)) ∧ w2.heap[w.heap.size + 1 + 1]? = some (.cells #[.int .u8 k, .string ⟨#[]⟩, .int .i64 0, .slice none 0 0] 25 (0, 0)) ∧ w2.heap.size = w.heap.size + 3 := by
  rw [hw2]
  exact ⟨hb1.alloc (by omega) _, heap_old k1 _, by rw [show w.heap.size + 1 + 1 = w1.heap.size by omega]; exact heap_new _ _, by simp [hs1]⟩
/-- What is left of a reply behind its own part: its cells and those of the copy. -/
structure MayEnd (w w3 : World) (p q : Nat) (t t' : ByteArray) (n n' : Int) (a : Option Addr) (m c : Nat) : Prop where
  bel : Below w.heap.size w w3
  c1 : w3.cell? ⟨p, 1, none⟩ = some (.string t)
  c2 : w3.cell? ⟨p, 2, none⟩ = some (.int .i64 n)
  c3 : w3.cell? ⟨p, 3, none⟩ = some (.slice a m c)
  d1 : w3.cell? ⟨q, 1, none⟩ = some (.string t')
  d2 : w3.cell? ⟨q, 2, none⟩ = some (.int .i64 n')
theorem eqz_int (n : Int) : ((0 : Int) == n) = decide (n = 0) := by
  by_cases h : n = 0
  · subst h; rfl
  · rw [decide_eq_false h, beq_eq_false_iff_ne]; exact fun e => h e.symm
theorem eqz_nat (m : Nat) : ((m : Int) == 0) = decide (m = 0) := by
  by_cases h : m = 0
  · subst h; rfl
  · rw [decide_eq_false h, beq_eq_false_iff_ne]; omega
set_option maxHeartbeats 3200000 in
set_option maxRecDepth 100000 in
theorem may_text {k : Int} (hk : k = 1 ∨ k = 2) (t : ByteArray) (ht : t.size ≤ 1100000) (n : Int) (a : Option Addr) (m c : Nat) (d : Int) (w : World) :
    Calls Tryd.prog 28 #[.agg #[.int .u8 k, .string t, .int .i64 n, .slice a m c], .int .i64 d] w fun e w' => e = .returned (.bool (bareB t && (decide (n = 0) && decide (m = 0)))) ∧ Below w.heap.size w w' := by
  obtain ⟨w1, hw1⟩ : ∃ w1, w1 = mayW w k t n a m c d := ⟨_, rfl⟩
  obtain ⟨hb1, hs1, k1, k2⟩ := mayW_facts hw1
  unfold mayW at hw1
  obtain ⟨w2, hw2⟩ : ∃ w2, w2 = w1.alloc (.cells #[.int .u8 k, .string ⟨#[]⟩, .int .i64 0, .slice none 0 0] 25) := ⟨_, rfl⟩
  obtain ⟨hb2, j1, j2, hs2⟩ := own_facts hb1 hs1 k1 hw2
  have c0 := cell_in k1 (i := 0) rfl
  have HC := Lib.hid (fun w => containsCrlf t (by omega) w)
  have HW := Lib.hid hw1
  have HW2 := Lib.hid hw2
  have HB := Lib.hid (And.intro hb2 (And.intro hs2 (And.intro hs1 (And.intro j1 j2))))
  have ee := str_eq (rfl : t = t)
  obtain ⟨y, hy⟩ : ∃ y, ((0 : Int) == n) = y := ⟨_, rfl⟩
  obtain ⟨z, hz⟩ : ∃ z, ((m : Int) == 0) = z := ⟨_, rfl⟩
  rw [← eqz_int, ← eqz_nat, hy, hz]
  have x1 := cell_in j1 (i := 1) rfl
  cases hb : bareB t
  · rw [hb] at HC
    clear hw1 hb1 hs1 k1 k2 ht hw2 hb2 j1 j2 hs2 hb hy hz ee
    rcases hk with rfl | rfl
    all_goals
      go_enter Tryd.func28, Tryd.ntmps28
      go_wp2_with fail
      rw [← HW.out, ← HW2.out]
      refine (HC.out _).mono ?_
      rintro e w3 ⟨rfl, b3⟩
      have H3 := Lib.hid (HB.out.1.trans (b3.mono HB.out.1.size))
      clear b3
      go_wp2_with fail
      go_ret
      exact ⟨rfl, H3.out⟩
  · rw [hb] at HC
    clear hw1 hb1 hs1 k1 k2 ht hw2 hb2 j1 j2 hs2 hb
    rcases hk with rfl | rfl
    all_goals
      cases y <;> cases z
      all_goals
        go_enter Tryd.func28, Tryd.ntmps28
        go_wp2_with fail
        rw [← HW.out, ← HW2.out]
        refine (HC.out _).mono ?_
        rintro e w3 ⟨rfl, b3⟩
        have j1 := (b3.block _ (heap_lt HB.out.2.2.2.1)).trans HB.out.2.2.2.1
        have j2 := (b3.block _ (heap_lt HB.out.2.2.2.2)).trans HB.out.2.2.2.2
        have x1 := cell_in j1 (i := 1) rfl
        have q1 := cell_in j2 (i := 1) rfl
        have qf := frozen_in j2 1
        obtain ⟨w4, hw4⟩ : ∃ w4, w4 = w3.setCell ⟨w.heap.size + 1 + 1, 1, none⟩ (.string t) := ⟨_, rfl⟩
        have ch : Chg (fun k => k = w.heap.size + 1 + 1) w3 w4 := by rw [hw4]; exact Chg.setCell _ _ _ _ rfl
        have j3 := setCell_head j2 1 (.string t)
        rw [← hw4] at j3
        have j4 := ch.keep j1 (fun e => by omega)
        have z1 := cell_in j4 (i := 1) rfl
        have z2 := cell_in j4 (i := 2) rfl
        have z3 := cell_in j4 (i := 3) rfl
        have v1 := cell_in j3 (i := 1) rfl
        have v2 := cell_in j3 (i := 2) rfl
        have H3 := Lib.hid (belowChg (HB.out.1.trans (b3.mono HB.out.1.size)) ch (Nat.le_trans HB.out.1.size b3.size) fun k hk _ => by omega)
        have HW4 := Lib.hid hw4
        clear b3 j1 j2 j3 j4 ch hw4
        go_wp2_with (rw [← HW4.out])
        go_ret
        exact ⟨rfl, H3.out⟩
end Go.Proofs.YtpldbgdhflmjhaaDoor

/- resp.may: of a number, of bytes, of nothing. (Printed by gen_rsm2.py.) -/
namespace Go.Proofs.YtpldbgdhflmjhaaDoor
set_option linter.unusedVariables false
set_option linter.unusedSimpArgs false
open Go.RowKit
theorem empty_no {t : ByteArray} (h : ¬ t.size = 0) : t.toList.isEmpty = false ∧ (([] : List UInt8) == t.toList) = false ∧ ((⟨#[]⟩ : ByteArray).toList == t.toList) = false ∧ (t.toList == (⟨#[]⟩ : ByteArray).toList) = false := by
  have hne : t.toList ≠ [] := fun e => h (by rw [ByteArray.toList_eq] at e; have := congrArg List.length e; rw [Array.length_toList] at this; exact this)
  refine ⟨?_, ?_, ?_, ?_⟩
  · cases h : t.toList with
    | nil => exact absurd h hne
    | cons _ _ => rfl
  · rw [beq_eq_false_iff_ne]; exact fun e => hne e.symm
  · rw [beq_eq_false_iff_ne]; exact fun e => hne (by rw [← e, ByteArray.toList_eq])
  · rw [beq_eq_false_iff_ne]; exact fun e => hne (by rw [e, ByteArray.toList_eq])
set_option maxHeartbeats 3200000 in
set_option maxRecDepth 100000 in
theorem may_bulk (t : ByteArray) (ht : t.size ≤ 1100000) (n : Int) (a : Option Addr) (m c : Nat) (d : Int) (w : World) :
    Calls Tryd.prog 28 #[.agg #[.int .u8 4, .string t, .int .i64 n, .slice a m c], .int .i64 d] w fun e w' => e = .returned (.bool (decide (n = 0) && decide (m = 0))) ∧ Below w.heap.size w w' := by
  have ee := str_eq (rfl : t = t)
  obtain ⟨y, hy⟩ : ∃ y, ((0 : Int) == n) = y := ⟨_, rfl⟩
  obtain ⟨z, hz⟩ : ∃ z, ((m : Int) == 0) = z := ⟨_, rfl⟩
  rw [← eqz_int, ← eqz_nat m, hy, hz]
  clear ht
  cases y <;> cases z
  all_goals
    go_enter Tryd.func28, Tryd.ntmps28
    go_wp2_with fail
    go_ret
    exact ⟨rfl, (((Below.refl _ _).alloc (Nat.le_refl _) _).alloc (by simp) _).alloc (by simp; omega) _⟩
set_option maxHeartbeats 3200000 in
set_option maxRecDepth 100000 in
theorem may_int (t : ByteArray) (ht : t.size ≤ 1100000) (n : Int) (a : Option Addr) (m c : Nat) (d : Int) (w : World) :
    Calls Tryd.prog 28 #[.agg #[.int .u8 3, .string t, .int .i64 n, .slice a m c], .int .i64 d] w fun e w' => e = .returned (.bool (decide (t.size = 0) && decide (m = 0))) ∧ Below w.heap.size w w' := by
  obtain ⟨z, hz⟩ : ∃ z, ((m : Int) == 0) = z := ⟨_, rfl⟩
  rw [← eqz_nat m, hz]
  by_cases h0 : t.size = 0
  · obtain rfl : t = ⟨#[]⟩ := ByteArray.ext (Array.eq_empty_of_size_eq_zero h0)
    rw [decide_eq_true h0]
    clear ht h0
    cases z
    all_goals
      go_enter Tryd.func28, Tryd.ntmps28
      go_wp2_with fail
      go_ret
      exact ⟨rfl, (((Below.refl _ _).alloc (Nat.le_refl _) _).alloc (by simp) _).alloc (by simp; omega) _⟩
  · obtain ⟨g1, g2, g3, g4⟩ := empty_no h0
    rw [decide_eq_false h0]
    clear ht h0
    go_enter Tryd.func28, Tryd.ntmps28
    go_wp2_with fail
    go_ret
    exact ⟨rfl, (((Below.refl _ _).alloc (Nat.le_refl _) _).alloc (by simp) _).alloc (by simp; omega) _⟩
set_option maxHeartbeats 3200000 in
set_option maxRecDepth 100000 in
theorem may_nil {k : Int} (hk : k = 5 ∨ k = 7) (t : ByteArray) (ht : t.size ≤ 1100000) (n : Int) (a : Option Addr) (m c : Nat) (d : Int) (w : World) :
    Calls Tryd.prog 28 #[.agg #[.int .u8 k, .string t, .int .i64 n, .slice a m c], .int .i64 d] w fun e w' => e = .returned (.bool (decide (t.size = 0) && (decide (n = 0) && decide (m = 0)))) ∧ Below w.heap.size w w' := by
  obtain ⟨y, hy⟩ : ∃ y, ((0 : Int) == n) = y := ⟨_, rfl⟩
  obtain ⟨z, hz⟩ : ∃ z, ((m : Int) == 0) = z := ⟨_, rfl⟩
  rw [← eqz_int, ← eqz_nat m, hy, hz]
  by_cases h0 : t.size = 0
  · obtain rfl : t = ⟨#[]⟩ := ByteArray.ext (Array.eq_empty_of_size_eq_zero h0)
    rw [decide_eq_true h0]
    clear ht h0
    rcases hk with rfl | rfl
    all_goals
      cases y <;> cases z
      all_goals
        go_enter Tryd.func28, Tryd.ntmps28
        go_wp2_with fail
        go_ret
        exact ⟨rfl, (((Below.refl _ _).alloc (Nat.le_refl _) _).alloc (by simp) _).alloc (by simp; omega) _⟩
  · obtain ⟨g1, g2, g3, g4⟩ := empty_no h0
    rw [decide_eq_false h0]
    clear ht h0
    rcases hk with rfl | rfl
    all_goals
      go_enter Tryd.func28, Tryd.ntmps28
      go_wp2_with fail
      go_ret
      exact ⟨rfl, (((Below.refl _ _).alloc (Nat.le_refl _) _).alloc (by simp) _).alloc (by simp; omega) _⟩
set_option maxHeartbeats 3200000 in
set_option maxRecDepth 100000 in
theorem may_other {k : Int} (hk : ¬ (k = 1 ∨ k = 2) ∧ ¬ k = 3 ∧ ¬ k = 4 ∧ ¬ (k = 5 ∨ k = 7) ∧ ¬ k = 6) (t : ByteArray) (ht : t.size ≤ 1100000) (n : Int) (a : Option Addr) (m c : Nat) (d : Int) (w : World) :
    Calls Tryd.prog 28 #[.agg #[.int .u8 k, .string t, .int .i64 n, .slice a m c], .int .i64 d] w fun e w' => e = .returned (.bool (false)) ∧ Below w.heap.size w w' := by
  have i1 : (k == (1 : Int)) = false := by rw [beq_eq_false_iff_ne]; omega
  have i2 : (k == (2 : Int)) = false := by rw [beq_eq_false_iff_ne]; omega
  have i3 : (k == (3 : Int)) = false := by rw [beq_eq_false_iff_ne]; omega
  have i4 : (k == (4 : Int)) = false := by rw [beq_eq_false_iff_ne]; omega
  have i5 : (k == (5 : Int)) = false := by rw [beq_eq_false_iff_ne]; omega
  have i6 : (k == (6 : Int)) = false := by rw [beq_eq_false_iff_ne]; omega
  have i7 : (k == (7 : Int)) = false := by rw [beq_eq_false_iff_ne]; omega
  clear hk ht
  go_enter Tryd.func28, Tryd.ntmps28
  go_wp2_with fail
  go_ret
  exact ⟨rfl, (((Below.refl _ _).alloc (Nat.le_refl _) _).alloc (by simp) _).alloc (by simp; omega) _⟩
end Go.Proofs.YtpldbgdhflmjhaaDoor

/- The document's bare and May, of a reply without a list. (Printed by gen_rsr1.py.) -/
namespace Go.Proofs.YtpldbgdhflmjhaaDoor
set_option linter.unusedVariables false
set_option linter.unusedSimpArgs false
open Go.RowKit
set_option maxHeartbeats 1600000 in
set_option maxRecDepth 100000 in
theorem refBare (s : ByteArray) (hs : s.size ≤ 1000000000) (w : World) :
    Calls Tryd.prog 51 #[.string s] w fun e w' => e = .returned (.bool (bareB s)) ∧ w' = w := by
  have HB := Lib.hid (show bareB s = s.data.toList.all (fun b => b != 10 && b != 13) from rfl)
  obtain ⟨n, hn⟩ : ∃ n, s.size = n := ⟨_, rfl⟩
  have HL := Lib.hid (show s.data.toList.length = n by rw [Array.length_toList]; exact hn)
  go_enter Tryd.func51, Tryd.ntmps51
  go_wp2_with fail
  go_loop [3] (fun i => ∃ k : Nat, k ≤ n ∧ i = .int .i64 k ∧ Hid ((s.data.toList.take k).all (fun b => b != 10 && b != 13) = true)) (fun i => n - (intOf i).toNat)
  case atStart => exact ⟨0, Nat.zero_le _, rfl, Lib.hid rfl⟩
  case round =>
    obtain ⟨k, hk, rfl, hI⟩ := hrel
    by_cases hlt : k < n
    · have hlt' : k < s.size := by omega
      obtain ⟨x, hx⟩ : ∃ x, s[k]'hlt' = x := ⟨_, rfl⟩
      have hxl : s.data.toList[k]? = some x := by rw [← hx]; exact Lib.data_getElem? s k hlt'
      obtain ⟨hkl, hxl'⟩ := List.getElem?_eq_some_iff.1 hxl
      have hstep : (s.data.toList.take (k + 1)).all (fun b => b != 10 && b != 13) = (x != 10 && x != 13) := by
        rw [List.take_succ_eq_append_getElem hkl, List.all_append, hI.out, hxl']; simp
      have hmem : x ∈ s.data.toList := List.mem_of_getElem? hxl
      have HM := Lib.hid hmem
      have HS := Lib.hid hstep
      clear hxl hkl hxl' hstep hmem
      by_cases h10 : x = 10
      · have hres : bareB s = false := by
          rw [HB.out, List.all_eq_false]
          exact ⟨x, HM.out, by rw [h10]; decide⟩
        have e1 : ((x.toNat : Int) == 10) = true := by rw [h10]; rfl
        clear h10
        have HRes := Lib.hid hres
        clear hres
        go_wp2_with fail
        go_ret
        exact ⟨ret1 (by rw [HRes.out] <;> rfl), rfl⟩
      · have e1 : ((x.toNat : Int) == 10) = false := by
          rw [beq_eq_false_iff_ne]; intro e; exact h10 (UInt8.toNat_inj.1 (by have : (10 : UInt8).toNat = 10 := rfl; rw [this]; omega))
        by_cases h13 : x = 13
        · have hres : bareB s = false := by
            rw [HB.out, List.all_eq_false]
            exact ⟨x, HM.out, by rw [h13]; decide⟩
          have e2 : ((x.toNat : Int) == 13) = true := by rw [h13]; rfl
          clear h10 h13
          have HRes := Lib.hid hres
          clear hres
          go_wp2_with fail
          go_ret
          exact ⟨ret1 (by rw [HRes.out] <;> rfl), rfl⟩
        · have e2 : ((x.toNat : Int) == 13) = false := by
            rw [beq_eq_false_iff_ne]; intro e; exact h13 (UInt8.toNat_inj.1 (by have : (13 : UInt8).toNat = 13 := rfl; rw [this]; omega))
          have HN := Lib.hid (show (s.data.toList.take (k + 1)).all (fun b => b != 10 && b != 13) = true by
            rw [HS.out]
            simp only [Bool.and_eq_true, bne_iff_ne, ne_eq]
            exact ⟨h10, h13⟩)
          clear h10 h13
          go_wp2_with fail
          go_round
          case rel => exact ⟨k + 1, by omega, by go_num, HN⟩
          case measure => simp [intOf]; omega
    · obtain rfl : n = k := by omega
      have hres : bareB s = true := by
        rw [HB.out, ← List.take_of_length_le (l := s.data.toList) (i := n) (by rw [HL.out]; exact Nat.le_refl _)]
        exact hI.out
      have HRes := Lib.hid hres
      clear hres
      clear hlt
      go_wp2_with fail
      go_ret
      exact ⟨ret1 (by rw [HRes.out] <;> rfl), rfl⟩
theorem eqz_int2 (n : Int) : (n == (0 : Int)) = decide (n = 0) := rfl
set_option maxHeartbeats 3200000 in
set_option maxRecDepth 100000 in
theorem rmay_text {k : Int} (hk : k = 1 ∨ k = 2) (t : ByteArray) (ht : t.size ≤ 1100000) (n : Int) (a : Option Addr) (m c : Nat) (d : Int) (w : World) :
    Calls Tryd.prog 31 #[.agg #[.int .u8 k, .string t, .int .i64 n, .slice a m c], .int .i64 d] w fun e w' => e = .returned (.bool (bareB t && (decide (n = 0) && decide (m = 0)))) ∧ Below w.heap.size w w' := by
  obtain ⟨w1, hw1⟩ : ∃ w1, w1 = w.alloc (.cells #[.int .u8 k, .string t, .int .i64 n, .slice a m c] 25) := ⟨_, rfl⟩
  have HW := Lib.hid hw1
  have HB := Lib.hid (show Below w.heap.size w w1 by rw [hw1]; exact (Below.refl _ _).alloc (Nat.le_refl _) _)
  have HC := Lib.hid (fun w => refBare t (by omega) w)
  obtain ⟨y, hy⟩ : ∃ y, (n == (0 : Int)) = y := ⟨_, rfl⟩
  obtain ⟨z, hz⟩ : ∃ z, ((m : Int) == 0) = z := ⟨_, rfl⟩
  rw [← eqz_int2 n, ← eqz_nat m, hy, hz]
  obtain ⟨x, hx⟩ : ∃ x, bareB t = x := ⟨_, rfl⟩
  rw [hx] at HC ⊢
  clear hw1 ht hx
  rcases hk with rfl | rfl
  all_goals
    cases x <;> cases y <;> cases z
    all_goals
      go_enter Tryd.func31, Tryd.ntmps31
      go_wp2_with fail
      rw [← HW.out]
      refine (HC.out _).mono ?_
      rintro e w' ⟨rfl, hww⟩
      rw [hww]
      clear hww w'
      go_wp2_with fail
      go_ret
      exact ⟨rfl, HB.out⟩
set_option maxHeartbeats 3200000 in
set_option maxRecDepth 100000 in
theorem rmay_bulk (t : ByteArray) (ht : t.size ≤ 1100000) (n : Int) (a : Option Addr) (m c : Nat) (d : Int) (w : World) :
    Calls Tryd.prog 31 #[.agg #[.int .u8 4, .string t, .int .i64 n, .slice a m c], .int .i64 d] w fun e w' => e = .returned (.bool (decide (n = 0) && decide (m = 0))) ∧ Below w.heap.size w w' := by
  obtain ⟨y, hy⟩ : ∃ y, (n == (0 : Int)) = y := ⟨_, rfl⟩
  obtain ⟨z, hz⟩ : ∃ z, ((m : Int) == 0) = z := ⟨_, rfl⟩
  rw [← eqz_int2 n, ← eqz_nat m, hy, hz]
  clear ht
  cases y <;> cases z
  all_goals
    go_enter Tryd.func31, Tryd.ntmps31
    go_wp2_with fail
    go_ret
    exact ⟨rfl, (Below.refl _ _).alloc (Nat.le_refl _) _⟩
set_option maxHeartbeats 3200000 in
set_option maxRecDepth 100000 in
theorem rmay_int (t : ByteArray) (ht : t.size ≤ 1100000) (n : Int) (a : Option Addr) (m c : Nat) (d : Int) (w : World) :
    Calls Tryd.prog 31 #[.agg #[.int .u8 3, .string t, .int .i64 n, .slice a m c], .int .i64 d] w fun e w' => e = .returned (.bool (decide (t.size = 0) && decide (m = 0))) ∧ Below w.heap.size w w' := by
  obtain ⟨z, hz⟩ : ∃ z, ((m : Int) == 0) = z := ⟨_, rfl⟩
  rw [← eqz_nat m, hz]
  by_cases h0 : t.size = 0
  · obtain rfl : t = ⟨#[]⟩ := ByteArray.ext (Array.eq_empty_of_size_eq_zero h0)
    rw [decide_eq_true h0]
    clear ht h0
    cases z
    all_goals
      go_enter Tryd.func31, Tryd.ntmps31
      go_wp2_with fail
      go_ret
      exact ⟨rfl, (Below.refl _ _).alloc (Nat.le_refl _) _⟩
  · obtain ⟨g1, g2, g3, g4⟩ := empty_no h0
    rw [decide_eq_false h0]
    clear ht h0
    go_enter Tryd.func31, Tryd.ntmps31
    go_wp2_with fail
    go_ret
    exact ⟨rfl, (Below.refl _ _).alloc (Nat.le_refl _) _⟩
set_option maxHeartbeats 3200000 in
set_option maxRecDepth 100000 in
theorem rmay_nil {k : Int} (hk : k = 5 ∨ k = 7) (t : ByteArray) (ht : t.size ≤ 1100000) (n : Int) (a : Option Addr) (m c : Nat) (d : Int) (w : World) :
    Calls Tryd.prog 31 #[.agg #[.int .u8 k, .string t, .int .i64 n, .slice a m c], .int .i64 d] w fun e w' => e = .returned (.bool (decide (t.size = 0) && (decide (n = 0) && decide (m = 0)))) ∧ Below w.heap.size w w' := by
  obtain ⟨y, hy⟩ : ∃ y, (n == (0 : Int)) = y := ⟨_, rfl⟩
  obtain ⟨z, hz⟩ : ∃ z, ((m : Int) == 0) = z := ⟨_, rfl⟩
  rw [← eqz_int2 n, ← eqz_nat m, hy, hz]
  by_cases h0 : t.size = 0
  · obtain rfl : t = ⟨#[]⟩ := ByteArray.ext (Array.eq_empty_of_size_eq_zero h0)
    rw [decide_eq_true h0]
    clear ht h0
    rcases hk with rfl | rfl
    all_goals
      cases y <;> cases z
      all_goals
        go_enter Tryd.func31, Tryd.ntmps31
        go_wp2_with fail
        go_ret
        exact ⟨rfl, (Below.refl _ _).alloc (Nat.le_refl _) _⟩
  · obtain ⟨g1, g2, g3, g4⟩ := empty_no h0
    rw [decide_eq_false h0]
    clear ht h0
    rcases hk with rfl | rfl
    all_goals
      go_enter Tryd.func31, Tryd.ntmps31
      go_wp2_with fail
      go_ret
      exact ⟨rfl, (Below.refl _ _).alloc (Nat.le_refl _) _⟩
set_option maxHeartbeats 3200000 in
set_option maxRecDepth 100000 in
theorem rmay_other {k : Int} (hk : ¬ (k = 1 ∨ k = 2) ∧ ¬ k = 3 ∧ ¬ k = 4 ∧ ¬ (k = 5 ∨ k = 7) ∧ ¬ k = 6) (t : ByteArray) (ht : t.size ≤ 1100000) (n : Int) (a : Option Addr) (m c : Nat) (d : Int) (w : World) :
    Calls Tryd.prog 31 #[.agg #[.int .u8 k, .string t, .int .i64 n, .slice a m c], .int .i64 d] w fun e w' => e = .returned (.bool (false)) ∧ Below w.heap.size w w' := by
  have i1 : (k == (1 : Int)) = false := by rw [beq_eq_false_iff_ne]; omega
  have i2 : (k == (2 : Int)) = false := by rw [beq_eq_false_iff_ne]; omega
  have i3 : (k == (3 : Int)) = false := by rw [beq_eq_false_iff_ne]; omega
  have i4 : (k == (4 : Int)) = false := by rw [beq_eq_false_iff_ne]; omega
  have i5 : (k == (5 : Int)) = false := by rw [beq_eq_false_iff_ne]; omega
  have i6 : (k == (6 : Int)) = false := by rw [beq_eq_false_iff_ne]; omega
  have i7 : (k == (7 : Int)) = false := by rw [beq_eq_false_iff_ne]; omega
  clear hk ht
  go_enter Tryd.func31, Tryd.ntmps31
  go_wp2_with fail
  go_ret
  exact ⟨rfl, (Below.refl _ _).alloc (Nat.le_refl _) _⟩
end Go.Proofs.YtpldbgdhflmjhaaDoor

/- The document's May, of any reply. -/
namespace Go.Proofs.YtpldbgdhflmjhaaDoor
set_option linter.unusedVariables false
set_option linter.unusedSimpArgs false
open Go.RowKit
abbrev RMayOk (r : Rep) : Prop := ∀ (d : Nat) (w : World) (v : Value), d ≤ 1000000 → RepV w r v → sizeR r ≤ 1100000 → Calls Tryd.prog 31 #[v, .int .i64 (d : Int)] w fun e w' => e = .returned (.bool (mayR d r)) ∧ Below w.heap.size w w'
set_option maxHeartbeats 3200000 in
set_option maxRecDepth 100000 in
theorem rmay_list {l : List Rep} (ih : ∀ r ∈ l, RMayOk r) {w : World} (t : ByteArray) (n : Int) {a : Option Addr} {m c : Nat} (h : RepRow w a m c l) (hs : m + sizeL l ≤ 1100000) (d : Nat) (hd : d ≤ 1000000) :
    Calls Tryd.prog 31 #[.agg #[.int .u8 6, .string t, .int .i64 n, .slice a m c], .int .i64 (d : Int)] w fun e w' => e = .returned (.bool (decide (t.size = 0) && (decide (n = 0) && (decide (d < 8) && mayL (d + 1) l)))) ∧ Below w.heap.size w w' := by
  by_cases h0 : t.size = 0
  · obtain rfl : t = ⟨#[]⟩ := ByteArray.ext (Array.eq_empty_of_size_eq_zero h0)
    by_cases h1 : n = 0
    · by_cases h8 : d < 8
      · have e1 : decide ((8 : Int) ≤ (d : Int)) = false := decide_eq_false (by omega)
        have e1' : decide (8 ≤ d) = false := decide_eq_false (by omega)
        subst h1
        rw [decide_eq_true h0, decide_eq_true h8]
        obtain ⟨w1, hw1⟩ : ∃ w1, w1 = w.alloc (.cells #[.int .u8 6, .string ⟨#[]⟩, .int .i64 0, .slice a m c] 25) := ⟨_, rfl⟩
        have hb1 : Below w.heap.size w w1 := by rw [hw1]; exact (Below.refl _ _).alloc (Nat.le_refl _) _
        have k1 : w1.heap[w.heap.size]? = some (.cells #[.int .u8 6, .string ⟨#[]⟩, .int .i64 0, .slice a m c] 25 (0, 0)) := by rw [hw1]; exact heap_new _ _
        have HK := Lib.hid (show ∀ w', Below w1.heap.size w1 w' → w'.cell? ⟨w.heap.size, 3, none⟩ = some (.slice a m c) from fun w' hb => cell_in ((hb.block _ (heap_lt k1)).trans k1) rfl)
        have HX := Lib.hid (show decide ((0 : Int) = 0) = true from rfl)
        have hall : ∀ r ∈ l, sizeR r ≤ 1100000 := fun r hr => by have := sizeL_mem hr; omega
        have HI := Lib.hid (And.intro ih hall)
        have HR := Lib.hid h
        have HL := Lib.hid h.1
        have HW := Lib.hid hw1
        have HB := Lib.hid hb1
        have HA := Lib.hid (mayL_all (d + 1) l)
        have hm6 : m ≤ 1100000 := by omega
        have hmc := h.2.1
        have H8 := Lib.hid h8
        clear h hs ih hw1 hb1 k1 hall h0 h8
        go_enter Tryd.func31, Tryd.ntmps31
        go_wp2_with fail
        rw [← HW.out]
        go_loopw [8] (fun i wr => ∃ k : Nat, k ≤ m ∧ i = .int .i64 k ∧ Hid ((l.take k).all (mayR (d + 1)) = true ∧ Below w1.heap.size w1 wr)) (fun i _ => m - (intOf i).toNat)
        case atStart => exact ⟨0, Nat.zero_le _, rfl, Lib.hid ⟨rfl, Below.refl _ _⟩⟩
        case round =>
          obtain ⟨k, hk, rfl, hI⟩ := hrel
          have c3 := HK.out wr hI.out.2
          have hbw := HB.out.trans (hI.out.2.mono HB.out.size)
          by_cases hlt : k < m
          · obtain ⟨b, o, r, a', c', rfl, hr, ⟨d0, d1, d2, d3⟩, hv⟩ := (HR.out.below hbw).cells hlt
            obtain ⟨hkl, hr'⟩ := List.getElem?_eq_some_iff.1 hr
            have hmem := List.mem_of_getElem? hr
            have hC := HI.out.1 r hmem (d + 1) wr _ (by have := H8.out; omega) hv (HI.out.2 r hmem)
            rw [show (((d + 1 : Nat)) : Int) = (d : Int) + 1 by omega] at hC
            have HC := Lib.hid hC
            have hs : (l.take (k + 1)).all (mayR (d + 1)) = mayR (d + 1) r := by
              rw [List.take_succ_eq_append_getElem hkl, List.all_append, hI.out.1, hr']; simp
            obtain ⟨t, ht⟩ : ∃ t, mayR (d + 1) r = t := ⟨_, rfl⟩
            rw [ht] at HC hs
            have HS := Lib.hid (And.intro hs (And.intro ht hmem))
            clear hv hr hkl hr' hmem hs ht hC hbw
            go_wp2_with fail
            refine HC.out.mono ?_
            rintro e w2 ⟨rfl, b2⟩
            have HB2 := Lib.hid (hI.out.2.trans (b2.mono hI.out.2.size))
            clear b2 d0 d1 d2 d3 c3
            cases t
            case' false =>
              have hany : mayL (d + 1) l = false := by
                rw [HA.out, List.all_eq_false]
                exact ⟨r, HS.out.2.2, by rw [HS.out.2.1]; decide⟩
              have HY := Lib.hid hany
              clear hany
              go_wp2_with fail
              exact bodyPost_ret (results_tmp rfl _ _ _) rfl ⟨ret1 (by rw [HY.out] <;> rfl), HB.out.trans (HB2.out.mono HB.out.size)⟩
            case' true =>
              go_wp2_with fail
              go_roundw
              case rel => exact ⟨k + 1, by omega, by go_num, Lib.hid ⟨HS.out.1, HB2.out⟩⟩
              case measure => simp [intOf]; omega
          · obtain rfl : m = k := by omega
            have hres : mayL (d + 1) l = true := by
              rw [HA.out]
              have h1 := hI.out.1
              rw [List.take_of_length_le (by rw [HL.out]; exact Nat.le_refl _)] at h1
              exact h1
            have HY := Lib.hid hres
            have HBW := Lib.hid hbw
            clear hres hbw hlt
            go_wp2_with fail
            go_ret
            exact ⟨ret1 (by rw [HY.out] <;> rfl), HBW.out⟩
      · have e1 : decide ((8 : Int) ≤ (d : Int)) = true := decide_eq_true (by omega)
        have e1' : decide (8 ≤ d) = true := decide_eq_true (by omega)
        subst h1
        rw [decide_eq_false h8]
        clear h ih hs h0 h8
        go_enter Tryd.func31, Tryd.ntmps31
        go_wp2_with fail
        go_ret
        exact ⟨by simp, (Below.refl _ _).alloc (Nat.le_refl _) _⟩
    · have e1 : (n == (0 : Int)) = false := by rw [beq_eq_false_iff_ne]; exact h1
      rw [decide_eq_false h1]
      clear h ih hs h0 h1
      go_enter Tryd.func31, Tryd.ntmps31
      go_wp2_with fail
      go_ret
      exact ⟨by simp, (Below.refl _ _).alloc (Nat.le_refl _) _⟩
  · obtain ⟨g1, g2, g3, g4⟩ := empty_no h0
    rw [decide_eq_false h0]
    clear h ih hs h0
    go_enter Tryd.func31, Tryd.ntmps31
    go_wp2_with fail
    go_ret
    exact ⟨rfl, (Below.refl _ _).alloc (Nat.le_refl _) _⟩
theorem rmay_any (r : Rep) : RMayOk r := by
  induction r using Rep.ind with
  | h k t n l ih =>
    rintro d w v hd ⟨a, c, rfl, hok, hrow⟩ hs
    simp only [Rep.k, Rep.t, Rep.n, Rep.l] at *
    simp only [sizeR] at hs
    simp only [mayR]
    split
    · next h => exact rmay_text h t (by omega) n a l.length c d w
    · split
      · next h => subst h; exact rmay_int t (by omega) n a l.length c d w
      · split
        · next h => subst h; exact rmay_bulk t (by omega) n a l.length c d w
        · split
          · next h => exact rmay_nil h t (by omega) n a l.length c d w
          · split
            · next h => subst h; exact rmay_list ih t n hrow (by omega) d hd
            · exact rmay_other ⟨by assumption, by assumption, by assumption, by assumption, by assumption⟩ t (by omega) n a l.length c d w
end Go.Proofs.YtpldbgdhflmjhaaDoor

/- Appending a string's bytes, or another slice, to bytes that a call has made. -/
namespace Go.Proofs.YtpldbgdhflmjhaaDoor
set_option linter.unusedVariables false
set_option linter.unusedSimpArgs false
open Go.RowKit
section
variable {P : Program} {w : World} {e : TypeId}
theorem run_append_row_str {t u ty : TypeId} {i : TypeInfo} {z : Value} (ht : P.underlying t = some (.slice e)) (hu : P.underlying u = some .string) (hi : P.info? e = some i) (hz : i.zero = some z)
    (hsize : i.size = 1) (hby : i.bytes = 1) (hzs : z.cells.size = 1)
    (g n cap : Nat) (cur : Array Value) (hg : RowAt w g e cur) (hcs : cur.size = cap) (hnc : n ≤ cap) (hcm : cap ≤ maxLen) (s : ByteArray)
    (h63 : n + s.size ≤ maxLen) (hbytes : n + s.size ≤ 140737488355328) :
    ∃ v w', (Builtin.append_ #[t, u] ty #[.slice (some ⟨g, 0, none⟩) n cap, .string s]).run P w = .ok v w' ∧ Appended w e 1 (some g) (cur.toList.take n) (Lib.strCells s) (n + s.size) v w' := by
  have hol : (cur.toList.take n).length = n := by rw [List.length_take, Array.length_toList, hcs, Nat.min_eq_left hnc]
  have hsl := Lib.strCells_length s
  by_cases hroom : n + s.size ≤ cap
  · have hf := Lib.run_firstCells_string (P := P) w 1 s
    have hst := run_storeCells_row (P := P) g n e (Lib.strCells s) 0 cur w hg (by omega) (Lib.strCells_oneCell s)
    simp only [Nat.add_zero, hsl] at hst
    have hr : (Builtin.append_ #[t, u] ty #[.slice (some ⟨g, 0, none⟩) n cap, .string s]).run P w = .ok (.slice (some ⟨g, 0, none⟩) (n + s.size) cap) (w.setRow g (cur.toList.take n ++ Lib.strCells s ++ cur.toList.drop (n + s.size)).toArray) := by
      simp [Builtin.append_, run_underlying ht, run_underlying hu, sizeOf, typeInfo, hi, hsize, Builtin.lenOf, hroom, hf, Addr.add_lit, hst]
    refine ⟨_, _, hr, g, cap, _, rfl, hg.setRow (by simp; omega), ?_, hroom, hcm, ?_, .inl rfl, Chg.setRow _ _ _ _ rfl⟩
    · simp only [List.size_toArray, List.length_append, List.length_take, List.length_drop, Array.length_toList]; omega
    · show (cur.toList.take n ++ Lib.strCells s ++ cur.toList.drop (n + s.size)).take ((n + s.size) * 1) = _
      have : (cur.toList.take n ++ Lib.strCells s).length = (n + s.size) * 1 := by rw [List.length_append, hol, hsl]; omega
      rw [← this]; exact List.take_left
  · have holds : ∀ j u, (cur.toList.take n)[j]? = some u → w.cell? ((⟨g, 0, none⟩ : Addr).add j) = some u := fun j u hu => by
      rw [Addr.add_lit, Nat.zero_add]
      refine hg.cell ?_
      rw [List.getElem?_take] at hu
      split at hu
      · simpa using hu
      · cases hu
    have hr := Lib.run_append_grow_string (P := P) w t u ty e i z ht hu hi hz ⟨g, 0, none⟩ n cap (cur.toList.take n) (by rw [hsize, hol]; omega) holds s (by omega) (by simp only [maxLen] at h63; omega) (by rw [hby]; exact growslice_fits (by omega) (by omega))
    exact ⟨_, _, hr, append_grown w (some g) e 1 z hzs _ _ _ _ (by rw [List.length_append, hol, hsl]; omega) h63⟩
/-- 'append(b, s...)', b of the call's own making. -/
theorem append_str_local {B : Nat} {v : Value} {n : Nat} {xs : List Value} {t u ty : TypeId} {i : TypeInfo} {z : Value} (ht : P.underlying t = some (.slice e)) (hu : P.underlying u = some .string) (hi : P.info? e = some i) (hz : i.zero = some z)
    (hsize : i.size = 1) (hby : i.bytes = 1) (hzs : z.cells.size = 1) (h : SliceIs w B e v n xs) (hB : B ≤ w.heap.size) (hn : 0 < n) (s : ByteArray) (hb : n + s.size ≤ 1000000000) :
    ∃ v' w', (Builtin.append_ #[t, u] ty #[v, .string s]).run P w = .ok v' w' ∧ SliceIs w' B e v' (n + s.size) (xs ++ Lib.strCells s) ∧ Below B w w' := by
  rcases h.2 with ⟨rfl, rfl⟩ | ⟨g, cap, cur, rfl, h2, h3, h4, h5, h6, h7⟩
  · omega
  · obtain ⟨v', w', hr, g', cap', cur', rfl, q1, q2, q3, q4, q5, q6, q7⟩ := run_append_row_str (P := P) (ty := ty) ht hu hi hz hsize hby hzs g n cap cur h3 h4 h5 h6 s (by unfold maxLen; omega) (by omega)
    refine ⟨_, w', hr, ⟨by rw [List.length_append, h.1, Lib.strCells_length], .inr ⟨g', cap', cur', rfl, ?_, q1, by omega, q3, q4, by rw [Nat.mul_one] at q5; rw [q5, h7]⟩⟩, belowChg (Below.refl _ _) q7 hB fun k hk _ => by cases hk; exact h2⟩
    rcases q6 with q6 | q6
    · cases q6; exact h2
    · omega
/-- 'append(a, b...)', both of the call's own making. -/
theorem append_two_local {B B2 : Nat} {v v2 : Value} {n m : Nat} {xs ys : List Value} {t ty : TypeId} {i : TypeInfo} {z : Value} (ht : P.underlying t = some (.slice e)) (hi : P.info? e = some i) (hz : i.zero = some z)
    (hsize : i.size = 1) (hby : i.bytes = 1) (hzs : z.cells.size = 1) (h : SliceIs w B e v n xs) (hB : B ≤ w.heap.size) (h2 : SliceIs w B2 e v2 m ys) (hm : 0 < m) (h1 : ∀ y ∈ ys, y.oneCell' = true) (hb : n + m ≤ 1000000000) :
    ∃ v' w', (Builtin.append_ #[t, t] ty #[v, v2]).run P w = .ok v' w' ∧ SliceIs w' B e v' (n + m) (xs ++ ys) ∧ Below B w w' := by
  obtain ⟨a, c, rfl, harg⟩ := h2.arg
  obtain ⟨b, o, rfl, hc⟩ := harg.2.resolve_left (by omega)
  refine run_append_local (P := P) ht hi hz hsize hby hzs h hB ⟨b, o, none⟩ m c ys hm h2.1 (fun j u hu => ?_) h1 (by unfold maxLen; omega) (by omega)
  obtain ⟨hlt, hu'⟩ := List.getElem?_eq_some_iff.1 hu
  rw [Addr.add_lit, hc j (by rw [← h2.1]; exact hlt)]
  simp only [List.getD, hu, Option.getD_some]
end
theorem append_bytes2 {w : World} {B B2 : Nat} {v v2 : Value} {n m : Nat} {xs ys : List UInt8} (h : SliceIs w B 5 v n (xs.map u8v)) (hB : B ≤ w.heap.size) (h2 : SliceIs w B2 5 v2 m (ys.map u8v)) (hm : 0 < m) (hb : n + m ≤ 1000000000) :
    ∃ v' w', (Builtin.append_ #[40, 40] 40 #[v, v2]).run Tryd.prog w = .ok v' w' ∧ SliceIs w' B 5 v' (n + m) ((xs ++ ys).map u8v) ∧ Below B w w' := by
  obtain ⟨i0, g1, g2, g3, g4⟩ := info_parts info_u8
  rw [List.map_append]
  exact append_two_local (P := Tryd.prog) Tryd.underlying40 g1 g2 g3 g4 rfl h hB h2 hm (by simp; intro x _; rfl) hb
theorem append_bytes_str {w : World} {B : Nat} {v : Value} {n : Nat} {xs : List UInt8} (h : SliceIs w B 5 v n (xs.map u8v)) (hB : B ≤ w.heap.size) (hn : 0 < n) (s : ByteArray) (hb : n + s.size ≤ 1000000000) :
    ∃ v' w', (Builtin.append_ #[40, 9] 40 #[v, .string s]).run Tryd.prog w = .ok v' w' ∧ SliceIs w' B 5 v' (n + s.size) ((xs ++ s.data.toList).map u8v) ∧ Below B w w' := by
  obtain ⟨i0, g1, g2, g3, g4⟩ := info_parts info_u8
  rw [List.map_append]
  exact append_str_local (P := Tryd.prog) Tryd.underlying40 Tryd.underlying9 g1 g2 g3 g4 rfl h hB hn s hb
/-- A slice literal's row. -/
theorem made_bytes {w : World} (xs : List UInt8) (vs : Array Value) (h : vs.toList = xs.map u8v) {n : Nat} (hn : xs.length = n) (hm : n ≤ 1000000000) : SliceIs (w.alloc (.cells vs 5)) w.heap.size 5 (.slice (some ⟨w.heap.size, 0, none⟩) n n) n (xs.map u8v) := by
  have hs : vs.size = n := by rw [← Array.length_toList, h, List.length_map, hn]
  exact ⟨by simp [hn], .inr ⟨w.heap.size, n, vs, rfl, Nat.le_refl _, .of (heap_new _ _), hs, Nat.le_refl _, by unfold maxLen; omega, by rw [h, List.take_of_length_le (by simp [hn])]⟩⟩
/-- A copy in a region that does not draw, its run known. -/
theorem wpList_copy_run {P : Program} {ops : Array Oper} {Q : Exit → Act → World → Prop} {rest : List Oper} {o : Oper} {a : Act} {w w' : World} {s x : Operand} {t u : TypeId} {v : Value} (hg : o.guard = none)
    (ho : o.op = .call { callee := .builtin .copy, args := #[s, x], argTypes := #[t, u] }) (hr : (Builtin.copy_ #[t, u] o.type #[a.eval s, a.eval x]).run P w = .ok v w')
    (h : wpList P ops Q rest (a.put o.dst v) w') : wpList P ops Q (o :: rest) a w :=
  wpList_plain hg fun K hK => by unfold Oper.wp; rw [exec_copy ho hr]; exact hK _ _ h
/-- A copy of bytes, maybe of none. -/
theorem copy_bytes {w : World} {g o dl dc : Nat} {cur : Array Value} (hg : RowAt w g 5 cur) (a : Option Addr) (xs : List UInt8) (n sc : Nat) (hn : xs.length = n) (hd : n ≤ dl) (ho : o + n ≤ cur.size)
    (h : n = 0 ∨ ∃ b q, a = some ⟨b, q, none⟩ ∧ ∀ i (hi : i < xs.length), w.cell? ⟨b, q + i, none⟩ = some (.int .u8 xs[i].toNat)) :
    (Builtin.copy_ #[40, 40] 3 #[.slice (some ⟨g, o, none⟩) dl dc, .slice a n sc]).run Tryd.prog w = .ok (.int .i64 (n : Nat)) (w.setRow g (spliced cur o (xs.map u8v))) := by
  obtain ⟨i0, g1, g2, g3, g4⟩ := info_parts info_u8
  cases a with
  | none =>
    have h0 : n = 0 := by
      rcases h with h | ⟨b, q, h, _⟩
      · exact h
      · cases h
    subst h0
    have hx : xs = [] := List.eq_nil_of_length_eq_zero hn
    subst hx
    have hs : spliced cur o ([].map u8v) = cur := by
      apply Array.toList_inj.1
      simp [spliced]
    rw [hs, hg.setSame]
    simp [Builtin.copy_, run_underlying Tryd.underlying40, sizeOf, typeInfo, g1, g3, Builtin.lenOf, Builtin.firstCells, goInt, storeCells]
  | some A =>
    refine run_copy_row (P := Tryd.prog) w _ _ _ _ i0 Tryd.underlying40 g1 g3 g o dl dc cur hg A n sc n (by omega) ho (xs.map u8v) (by simp [hn]) (fun j u hu => ?_) (by simp; intro x _; rfl)
    rw [List.getElem?_map] at hu
    cases hb : xs[j]? with
    | none => rw [hb] at hu; cases hu
    | some c =>
      rw [hb] at hu
      obtain ⟨hj, hcj⟩ := List.getElem?_eq_some_iff.1 hb
      obtain ⟨b, q, hab, hc⟩ := h.resolve_left (by omega)
      cases hab
      rw [Addr.add_lit, hc j hj, hcj]
      simpa using hu
/-- The bytes of a slice of the call's own making. -/
theorem SliceIs.arg_bytes {w : World} {B n : Nat} {a : Option Addr} {m c : Nat} {xs : List UInt8} (h : SliceIs w B 5 (.slice a m c) n (xs.map u8v)) (hn : 0 < n) : ∃ b o, a = some ⟨b, o, none⟩ ∧ ∀ i (hi : i < xs.length), w.cell? ⟨b, o + i, none⟩ = some (.int .u8 xs[i].toNat) := by
  obtain ⟨a', c', e, harg⟩ := h.arg
  cases e
  obtain ⟨b, o, e, hc⟩ := harg.2.resolve_left (by omega)
  refine ⟨b, o, e, fun i hi => ?_⟩
  have hl : xs.length = n := by simpa using h.1
  rw [hc i (by omega)]
  simp [List.getD, hi]
end Go.Proofs.YtpldbgdhflmjhaaDoor
