/- Lemmas and walks for StreamPlays, part 1 of 5: the texts Base, Slc, Args, Loc, Str, Reg, Search, Com, Rad1, Rad2, Rad12, Sad3, Sad4, Sad5, Sad6, Sad7, Sad8, Sad9, Sad10, Sad11, Sad13, Sad14, Sad15, Sad16, Sad17, Sad18, Sad19, Sad20, Sad21, Sad22. -/
import Derived.WalkKit
import Derived.Deep.Draws
import Derived.Laws.AppendOwn
import Derived.Laws.CopyRow
import Derived.IntWalk
import Derived.Laws.MakeOwn
import Derived.OpenShut
import Derived.Deep.Slices
import Derived.Deep.SlicePairs
import Derived.SliceStrings
import Derived.ChangeArms
import Derived.ChangeSlices
import Derived.Laws.Cover2
import Derived.Laws.BytesString
import Derived.Still
import Derived.Deep.Quiet
import Derived.BigQuiet
import Derived.Test.YtbjpfnafhhbmaaaDoorRows
import Derived.WalkSpells
import Derived.WalkLawsBesides
import Derived.Lib.Hide
import Derived.Deep.QuietTactic
namespace Go.Proofs.YtbjpfnafhhbmaaaDoor
set_option linter.unusedVariables false
set_option linter.unusedSimpArgs false
open Go.RowKit
/-- The number whose bytes these are, the lowest first. -/
def lowN : List UInt8 → Nat
  | [] => 0
  | c :: l => c.toNat + 256 * lowN l
theorem lowN_lt : ∀ (l : List UInt8), lowN l < 256 ^ l.length
  | [] => by simp [lowN]
  | c :: l => by
    have := lowN_lt l
    have hc := c.toNat_lt
    simp only [lowN, List.length_cons, Nat.pow_succ]
    omega
theorem lowN_lt64 (l : List UInt8) (h : l.length ≤ 8) : lowN l < 18446744073709551616 := by
  have h1 := lowN_lt l
  have h2 : 256 ^ l.length ≤ 256 ^ 8 := Nat.pow_le_pow_right (by omega) h
  have h3 : (256 : Nat) ^ 8 = 18446744073709551616 := by decide
  omega
theorem lowN_drop (l : List UInt8) (i : Nat) (h : i < l.length) : lowN (l.drop i) = l[i].toNat + 256 * lowN (l.drop (i + 1)) := by
  rw [List.drop_eq_getElem_cons h]
  rfl
theorem u64_or_low (n c : Nat) (hc : c < 256) (h : 256 * n + c < 18446744073709551616) : bits .or .u64 ((n * 256 : Nat) : Int) (c : Int) = ((c + 256 * n : Nat) : Int) := by
  rw [u64_or_nat _ _ (by omega) (by omega)]
  have := Nat.shiftLeft_add_eq_or_of_lt (i := 8) (b := c) (by simpa using hc) n
  rw [Nat.shiftLeft_eq] at this
  simp only [Nat.reducePow] at this
  rw [← this]; congr 1; omega

/-- A number's bytes, the lowest first, in so many. -/
def leN : Nat → Nat → List UInt8
  | 0, _ => []
  | k + 1, n => UInt8.ofNat n :: leN k (n / 256)
@[simp] theorem leN_length : ∀ k n, (leN k n).length = k
  | 0, _ => rfl
  | k + 1, n => by simp [leN, leN_length k]
theorem leN_get : ∀ (k n i : Nat) (h : i < (leN k n).length), (leN k n)[i].toNat = n / 256 ^ i % 256
  | 0, n, i, h => by simp [leN] at h
  | k + 1, n, 0, h => by simp [leN, UInt8.toNat_ofNat']
  | k + 1, n, i + 1, h => by
    simp only [leN, List.getElem_cons_succ]
    rw [leN_get k (n / 256) i (by simpa [leN] using h), Nat.div_div_eq_div_mul, Nat.pow_succ, Nat.mul_comm 256]
theorem lowN_leN : ∀ k n, lowN (leN k n) = n % 256 ^ k
  | 0, n => by simp [leN, lowN, Nat.mod_one]
  | k + 1, n => by
    simp only [leN, lowN, lowN_leN k, UInt8.toNat_ofNat', Nat.reducePow]
    rw [Nat.pow_succ, Nat.mul_comm _ 256, Nat.mod_mul]
theorem leN_lowN : ∀ (l : List UInt8), leN l.length (lowN l) = l
  | [] => rfl
  | c :: l => by
    have hc := c.toNat_lt
    simp only [List.length_cons, leN, lowN]
    rw [show (c.toNat + 256 * lowN l) / 256 = lowN l by omega, leN_lowN l]
    congr 1
    apply UInt8.toNat.inj
    simp
/-- Values stored over a row, from a place on. -/
def wrs (cs : Array Value) : Nat → List Value → Array Value
  | _, [] => cs
  | o, v :: l => wrs (cs.setIfInBounds o v) (o + 1) l
@[simp] theorem wrs_size : ∀ (l : List Value) (cs : Array Value) (o : Nat), (wrs cs o l).size = cs.size
  | [], _, _ => rfl
  | v :: l, cs, o => by simp [wrs, wrs_size l]
theorem wrs_get : ∀ (l : List Value) (cs : Array Value) (o i : Nat),
    (wrs cs o l)[i]? = if o ≤ i ∧ i < o + l.length ∧ i < cs.size then l[i - o]? else cs[i]?
  | [], cs, o, i => by simp [wrs]; omega
  | v :: l, cs, o, i => by
    simp only [wrs, wrs_get l, Array.size_setIfInBounds, List.length_cons, Array.getElem?_setIfInBounds]
    by_cases h1 : o = i
    · subst h1
      by_cases h2 : o < cs.size
      · rw [if_neg (by omega), if_pos rfl, if_pos h2, if_pos (by omega)]; simp
      · rw [if_neg (by omega), if_pos rfl, if_neg h2, if_neg (by omega)]; simp [Array.getElem?_eq_none (by omega : cs.size ≤ o)]
    · by_cases h2 : o + 1 ≤ i ∧ i < o + 1 + l.length ∧ i < cs.size
      · rw [if_pos h2, if_pos (by omega)]
        rw [show i - o = (i - (o + 1)) + 1 by omega]; simp
      · rw [if_neg h2, if_neg h1, if_neg (by omega)]
theorem wrs_snoc : ∀ (l : List Value) (cs : Array Value) (o : Nat) (v : Value), wrs cs o (l ++ [v]) = (wrs cs o l).setIfInBounds (o + l.length) v
  | [], cs, o, v => rfl
  | x :: l, cs, o, v => by
    simp only [List.cons_append, wrs, wrs_snoc l, List.length_cons]
    congr 1; omega
/-- Bytes as cells. -/
abbrev u8v (c : UInt8) : Value := .int .u8 c.toNat
theorem leN_snoc : ∀ (k n : Nat), leN (k + 1) n = leN k n ++ [UInt8.ofNat (n / 256 ^ k)]
  | 0, n => by simp [leN]
  | k + 1, n => by
    show UInt8.ofNat n :: leN (k + 1) (n / 256) = (UInt8.ofNat n :: leN k (n / 256)) ++ [_]
    rw [leN_snoc k (n / 256), Nat.div_div_eq_div_mul, Nat.pow_succ, Nat.mul_comm 256]; rfl
theorem cell_in {w : World} {b : Nat} {cs : Array Value} {E : TypeId} {fz : Nat × Nat} (h : w.heap[b]? = some (.cells cs E fz)) {i : Nat} {v : Value} (hv : cs[i]? = some v) : w.cell? ⟨b, i, none⟩ = some v := by
  simp [World.cell?, h, hv]
theorem frozen_in {w : World} {b : Nat} {cs : Array Value} {E : TypeId} (h : w.heap[b]? = some (.cells cs E (0, 0))) (i : Nat) : w.frozen? ⟨b, i, none⟩ = false := by
  simp [World.frozen?, h]
theorem heap_setRow {w : World} {b : Nat} {cs : Array Value} {E : TypeId} {fz : Nat × Nat} (h : w.heap[b]? = some (.cells cs E fz)) (cs' : Array Value) : (w.setRow b cs').heap[b]? = some (.cells cs' E fz) := setRow_heap w b cs cs' E fz h
theorem setRow_eq {w : World} {b : Nat} {cs : Array Value} {E : TypeId} {fz : Nat × Nat} (h : w.heap[b]? = some (.cells cs E fz)) : w.setRow b cs = w := setRow_self w b cs E fz h
theorem setRow_setCell {w : World} {b : Nat} {cs : Array Value} {E : TypeId} {fz : Nat × Nat} (h : w.heap[b]? = some (.cells cs E fz)) (cs' : Array Value) (i : Nat) (v : Value) :
    (w.setRow b cs').setCell ⟨b, i, none⟩ v = w.setRow b (cs'.setIfInBounds i v) := by
  rw [setCell_eq_setRow _ b i cs' E fz v (heap_setRow h cs'), setRow_setRow]
theorem ret1 {a b : Value} (h : a = b) : Ending.returned a = Ending.returned b := by rw [h]
theorem belowN {B : Nat} {a w : World} (h : Below B a w) (n : Nat) : Below B a (w.drewN n) := h.trans ⟨rfl, rfl, rfl, Nat.le_refl _, fun _ _ => rfl⟩
/-- What a call did: it may have changed the blocks of S, and made new ones; all else is as it was. -/
structure Chg (S : Nat → Prop) (w w' : World) : Prop where
  os : w'.os = w.os
  tape : w'.tape = w.tape
  output : w'.output = w.output
  size : w.heap.size ≤ w'.heap.size
  block : ∀ k, k < w.heap.size → ¬ S k → w'.heap[k]? = w.heap[k]?
theorem Chg.refl (S : Nat → Prop) (w : World) : Chg S w w := ⟨rfl, rfl, rfl, Nat.le_refl _, fun _ _ _ => rfl⟩
theorem Chg.trans {S S' : Nat → Prop} {a b c : World} (h : Chg S a b) (k : Chg S' b c) (hs : ∀ i, S' i → i < a.heap.size → S i) : Chg S a c :=
  ⟨k.os.trans h.os, k.tape.trans h.tape, k.output.trans h.output, Nat.le_trans h.size k.size, fun i hi hn => (k.block i (Nat.lt_of_lt_of_le hi h.size) (fun h' => hn (hs i h' hi))).trans (h.block i hi hn)⟩
theorem Chg.mono {S S' : Nat → Prop} {a b : World} (h : Chg S a b) (hs : ∀ i, S i → i < a.heap.size → S' i) : Chg S' a b :=
  ⟨h.os, h.tape, h.output, h.size, fun i hi hn => h.block i hi (fun h' => hn (hs i h' hi))⟩
theorem Chg.drewN (S : Nat → Prop) (w : World) (n : Nat) : Chg S w (w.drewN n) := ⟨rfl, rfl, rfl, Nat.le_refl _, fun _ _ _ => rfl⟩
theorem Chg.drew (S : Nat → Prop) (w : World) : Chg S w w.drew := ⟨rfl, rfl, rfl, Nat.le_refl _, fun _ _ _ => rfl⟩
theorem Chg.alloc (S : Nat → Prop) (w : World) (o : Obj) : Chg S w (w.alloc o) := ⟨rfl, rfl, rfl, by simp, fun k hk _ => Below.heap_alloc _ _ _ hk⟩
theorem Chg.setRow (S : Nat → Prop) (w : World) (g : Nat) (cs : Array Value) (h : S g) : Chg S w (w.setRow g cs) :=
  ⟨rfl, rfl, rfl, by simp, fun k _ hn => setRow_other w g k cs (fun e => hn (e ▸ h))⟩
theorem Chg.setCell (S : Nat → Prop) (w : World) (a : Addr) (v : Value) (h : S a.block) : Chg S w (w.setCell a v) :=
  ⟨rfl, rfl, rfl, by simp [World.setCell], fun k _ hn => Below.heap_setCell _ _ _ _ (fun e => hn (e ▸ h))⟩
theorem Chg.of_below {w w' : World} (S : Nat → Prop) (h : Below w.heap.size w w') : Chg S w w' := ⟨h.os, h.tape, h.output, h.size, fun k hk _ => h.block k hk⟩
theorem Chg.of_grown {w w' : World} {row : Option Nat} (S : Nat → Prop) (h : w.grownBy w' row) (hr : ∀ k, row = some k → S k) : Chg S w w' :=
  ⟨h.os, h.tape, h.output, h.size, fun k hk hn => h.block k hk (fun e => hn (hr k e.symm))⟩
theorem belowChg {B : Nat} {S : Nat → Prop} {a w w' : World} (h : Below B a w) (hc : Chg S w w') (hB : B ≤ w.heap.size) (hs : ∀ k, S k → k < w.heap.size → B ≤ k) : Below B a w' :=
  h.trans ⟨hc.os, hc.tape, hc.output, hc.size, fun k hk => hc.block k (by omega) (fun h' => by have := hs k h' (by omega); omega)⟩
theorem Chg.keep {S : Nat → Prop} {w w' : World} (h : Chg S w w') {k : Nat} {o : Obj} (hk : w.heap[k]? = some o) (hn : ¬ S k) : w'.heap[k]? = some o := by
  rw [h.block k (Array.getElem?_eq_some_iff.1 hk).1 hn]; exact hk
theorem heap_lt {w : World} {k : Nat} {o : Obj} (hk : w.heap[k]? = some o) : k < w.heap.size := (Array.getElem?_eq_some_iff.1 hk).1
theorem heap_new (w : World) (o : Obj) : (w.alloc o).heap[w.heap.size]? = some o := heap_alloc_new w o
theorem heap_old {w : World} {k : Nat} {o : Obj} (hk : w.heap[k]? = some o) (o' : Obj) : (w.alloc o').heap[k]? = some o := by
  rw [Below.heap_alloc _ _ _ (heap_lt hk)]; exact hk
theorem wrs_list : ∀ (b' b a c : List Value), b'.length = b.length → wrs (a ++ (b ++ c)).toArray a.length b' = (a ++ (b' ++ c)).toArray
  | [], [], a, c, _ => rfl
  | x :: b', y :: b, a, c, h => by
    simp only [wrs]
    have h1 : (a ++ (y :: b ++ c)).toArray.setIfInBounds a.length x = ((a ++ [x]) ++ (b ++ c)).toArray := by simp
    rw [h1, show a.length + 1 = (a ++ [x]).length by simp, wrs_list b' b (a ++ [x]) c (by simpa using h)]
    simp
  | [], _ :: _, _, _, h => by simp at h
  | _ :: _, [], _, _, h => by simp at h
/-- A row whose cells are known, none of them frozen. (What '[]byte(s)' makes bears a mark behind its last cell.) -/
def RowAt (w : World) (g : Nat) (e : TypeId) (cur : Array Value) : Prop := ∃ fz : Nat × Nat, (∀ i, i < cur.size → ¬ (fz.1 ≤ i ∧ i < fz.2)) ∧ w.heap[g]? = some (.cells cur e fz)
theorem RowAt.of {w : World} {g : Nat} {e : TypeId} {cur : Array Value} (h : w.heap[g]? = some (.cells cur e (0, 0))) : RowAt w g e cur := ⟨(0, 0), fun i _ => by simp, h⟩
section
variable {w : World} {g : Nat} {e : TypeId} {cur : Array Value}
theorem RowAt.cell (h : RowAt w g e cur) {i : Nat} {v : Value} (hv : cur[i]? = some v) : w.cell? ⟨g, i, none⟩ = some v := by
  obtain ⟨fz, _, hh⟩ := h
  exact cell_in hh hv
theorem RowAt.free (h : RowAt w g e cur) {i : Nat} (hi : i < cur.size) : w.frozen? ⟨g, i, none⟩ = false := by
  obtain ⟨⟨lo, hi'⟩, hf, hh⟩ := h
  have := hf i hi
  simp only [World.frozen?, hh, Bool.and_eq_false_iff, decide_eq_false_iff_not]
  by_cases h1 : lo ≤ i
  · exact .inr fun h2 => this ⟨h1, h2⟩
  · exact .inl h1
theorem RowAt.lt (h : RowAt w g e cur) : g < w.heap.size := by
  obtain ⟨fz, _, hh⟩ := h
  exact heap_lt hh
theorem RowAt.keep (h : RowAt w g e cur) {S : Nat → Prop} {w' : World} (hc : Chg S w w') (hn : ¬ S g) : RowAt w' g e cur := by
  obtain ⟨fz, hf, hh⟩ := h
  exact ⟨fz, hf, hc.keep hh hn⟩
theorem RowAt.setRow (h : RowAt w g e cur) {cs : Array Value} (hs : cs.size = cur.size) : RowAt (w.setRow g cs) g e cs := by
  obtain ⟨fz, hf, hh⟩ := h
  exact ⟨fz, by rw [hs]; exact hf, heap_setRow hh cs⟩
theorem RowAt.other (h : RowAt w g e cur) {k : Nat} (cs : Array Value) (hk : g ≠ k) : RowAt (w.setRow k cs) g e cur := by
  obtain ⟨fz, hf, hh⟩ := h
  exact ⟨fz, hf, by rw [setRow_other _ _ _ _ hk]; exact hh⟩
theorem RowAt.drewN (h : RowAt w g e cur) (n : Nat) : RowAt (w.drewN n) g e cur := h
theorem RowAt.setSame (h : RowAt w g e cur) : w.setRow g cur = w := by
  obtain ⟨fz, hf, hh⟩ := h
  exact setRow_eq hh
theorem RowAt.setSet (h : RowAt w g e cur) (cs : Array Value) (i : Nat) (v : Value) : (w.setRow g cs).setCell ⟨g, i, none⟩ v = w.setRow g (cs.setIfInBounds i v) := by
  obtain ⟨fz, hf, hh⟩ := h
  exact setRow_setCell hh cs i v
theorem RowAt.setCell (h : RowAt w g e cur) (i : Nat) (v : Value) : w.setCell ⟨g, i, none⟩ v = w.setRow g (cur.setIfInBounds i v) := by
  have := h.setSet cur i v
  rwa [h.setSame] at this
theorem RowAt.old (h : RowAt w g e cur) (o : Obj) : RowAt (w.alloc o) g e cur := by
  obtain ⟨fz, hf, hh⟩ := h
  exact ⟨fz, hf, heap_old hh o⟩
end
end Go.Proofs.YtbjpfnafhhbmaaaDoor

/- Slices whose row is known whole: append, copy, make. -/
namespace Go.Proofs.YtbjpfnafhhbmaaaDoor
set_option linter.unusedVariables false
set_option linter.unusedSimpArgs false
open Go.RowKit

/-- What is known behind an append: the value, its row, and that only the old row may have been written. -/
def Appended (w : World) (e : TypeId) (size : Nat) (g : Option Nat) (olds news : List Value) (n : Nat) (v : Value) (w' : World) : Prop :=
  ∃ g' cap' cur', v = .slice (some ⟨g', 0, none⟩) n cap' ∧ RowAt w' g' e cur' ∧ cur'.size = cap' * size ∧ n ≤ cap' ∧ cap' ≤ maxLen ∧
    cur'.toList.take (n * size) = olds ++ news ∧ (some g' = g ∨ w.heap.size ≤ g') ∧ Chg (fun k => some k = g) w w'

section
variable {P : Program} (w : World)
theorem append_grown (g : Option Nat) (e : TypeId) (size : Nat) (z : Value) (hzs : z.cells.size = size) (olds news : List Value) (n old : Nat) (hl : (olds ++ news).length = n * size) (hm : n ≤ maxLen) :
    Appended w e size g olds news n (.slice (some ⟨w.heap.size, 0, none⟩) n (grownCap w n old e))
      (w.drew.alloc (.cells (olds.toArray ++ news.toArray ++ Builtin.zeroCells z.cells (grownCap w n old e - n)) e)) := by
  have hge := grownCap_ge w n old e
  refine ⟨w.heap.size, grownCap w n old e, _, rfl, .of (heap_alloc_new w.drew _), ?_, hge, grownCap_le_maxLen w n old e hm, ?_, .inr (Nat.le_refl _), (Chg.drew _ w).trans (Chg.alloc _ _ _) fun _ h _ => h⟩
  · have : (olds.toArray ++ news.toArray).size = n * size := by simpa using hl
    rw [Array.size_append, this, size_zeroCells, hzs, ← Nat.add_mul]; congr 1; omega
  · simp only [Array.toList_append, ← hl]
    exact List.take_left

theorem run_storeCells_row (g o : Nat) (t : TypeId) : ∀ (vs : List Value) (i : Nat) (cur : Array Value) (w : World), RowAt w g t cur → o + i + vs.length ≤ cur.size → (∀ v ∈ vs, v.oneCell' = true) →
    (storeCells ⟨g, o, none⟩ vs i).run P w = .ok () (w.setRow g (cur.toList.take (o + i) ++ vs ++ cur.toList.drop (o + i + vs.length)).toArray)
  | [], i, cur, w, hg, _, _ => by
    simp only [storeCells, List.append_nil, List.length_nil, Nat.add_zero, List.take_append_drop, Array.toArray_toList]
    rw [hg.setSame]
    rfl
  | v :: rest, i, cur, w, hg, hl, h1 => by
    have hlt : o + i < cur.size := by simp at hl; omega
    have hc := hg.cell (i := o + i) (v := cur[o + i]) (by simp [hlt])
    have hf := hg.free hlt
    have h1v := h1 v (by simp)
    have hst : (store (Addr.add ⟨g, o, none⟩ i) v).run P w = .ok () (w.setRow g (cur.setIfInBounds (o + i) v)) := by
      rw [Addr.add_lit, ← hg.setCell]
      unfold store
      cases v <;> simp_all [Sem.run, Value.oneCell']
    have ih := run_storeCells_row g o t rest (i + 1) (cur.setIfInBounds (o + i) v) (w.setRow g (cur.setIfInBounds (o + i) v)) (hg.setRow (by simp)) (by simp at hl ⊢; omega) (fun u hu => h1 u (by simp [hu]))
    simp only [storeCells, Sem.run_bind, hst, Result.andThen_ok, ih, setRow_setRow]
    congr 3
    have e := list_seg_step cur.toList (o + i) v rest (by simp at hl ⊢; omega)
    simpa [Array.toList_setIfInBounds, Nat.add_assoc] using e

/-- 'append(s, x...)', both slices; s not nil, its row known. -/
theorem run_append_row (t ty e : TypeId) (i : TypeInfo) (z : Value) (size bytes : Nat) (ht : P.underlying t = some (.slice e)) (hi : P.info? e = some i) (hz : i.zero = some z)
    (hsize : i.size = size) (hby : i.bytes = bytes) (hzs : z.cells.size = size)
    (g n cap : Nat) (cur : Array Value) (hg : RowAt w g e cur) (hcs : cur.size = cap * size) (hnc : n ≤ cap) (hcm : cap ≤ maxLen)
    (a : Addr) (m c : Nat) (news : List Value) (hl : news.length = m * size) (hnews : ∀ j u, news[j]? = some u → w.cell? (a.add j) = some u) (h1 : ∀ u ∈ news, u.oneCell' = true)
    (h63 : n + m ≤ maxLen) (hbytes : (n + m) * bytes ≤ 140737488355328) :
    ∃ v w', (Builtin.append_ #[t, t] ty #[.slice (some ⟨g, 0, none⟩) n cap, .slice (some a) m c]).run P w = .ok v w' ∧ Appended w e size (some g) (cur.toList.take (n * size)) news (n + m) v w' := by
  subst hsize
  subst hby
  have hol : (cur.toList.take (n * i.size)).length = n * i.size := by
    rw [List.length_take, Array.length_toList, hcs, Nat.min_eq_left (Nat.mul_le_mul_right _ hnc)]
  have hlen : (cur.toList.take (n * i.size) ++ news).length = (n + m) * i.size := by rw [List.length_append, hol, hl, Nat.add_mul]
  by_cases hroom : n + m ≤ cap
  · have hfit : n * i.size + news.length ≤ cur.size := by rw [hl, hcs, ← Nat.add_mul]; exact Nat.mul_le_mul_right _ hroom
    have hf := run_firstCells_some (P := P) w i.size m a m c news hl hnews
    have hst := run_storeCells_row (P := P) g (n * i.size) e news 0 cur w hg (by simpa using hfit) h1
    simp only [Nat.add_zero] at hst
    have hr : (Builtin.append_ #[t, t] ty #[.slice (some ⟨g, 0, none⟩) n cap, .slice (some a) m c]).run P w =
      .ok (.slice (some ⟨g, 0, none⟩) (n + m) cap) (w.setRow g (cur.toList.take (n * i.size) ++ news ++ cur.toList.drop (n * i.size + news.length)).toArray) := by
      simp [Builtin.append_, run_underlying ht, sizeOf, typeInfo, hi, Builtin.lenOf, hroom, hf, Addr.add_lit, hst]
    refine ⟨_, _, hr, g, cap, _, rfl, hg.setRow (by simp; omega), ?_, hroom, hcm, ?_, .inl rfl, Chg.setRow _ _ _ _ rfl⟩
    · simp only [List.size_toArray, List.length_append, List.length_take, List.length_drop, Array.length_toList]; omega
    · show (cur.toList.take (n * i.size) ++ news ++ cur.toList.drop (n * i.size + news.length)).take ((n + m) * i.size) = _
      rw [← hlen]; exact List.take_left
  · have holds : ∀ j u, (cur.toList.take (n * i.size))[j]? = some u → w.cell? ((⟨g, 0, none⟩ : Addr).add j) = some u := fun j u hu => by
      have hadd : (⟨g, 0, none⟩ : Addr).add j = ⟨g, j, none⟩ := by unfold Addr.add; split <;> simp_all
      rw [hadd]
      refine hg.cell ?_
      rw [List.getElem?_take] at hu
      split at hu
      · simpa using hu
      · cases hu
    have hr := run_append_grow (P := P) w t ty e i z ht hi hz ⟨g, 0, none⟩ n cap _ hol holds a m c news hl hnews (by omega) (by simp only [maxLen] at h63; omega) (growslice_fits (by omega) hbytes)
    exact ⟨_, _, hr, append_grown w (some g) e i.size z hzs _ _ _ _ hlen h63⟩

/-- 'append(nil, x...)'. -/
theorem run_append_row_nil (t ty e : TypeId) (i : TypeInfo) (z : Value) (size bytes : Nat) (ht : P.underlying t = some (.slice e)) (hi : P.info? e = some i) (hz : i.zero = some z)
    (hsize : i.size = size) (hby : i.bytes = bytes) (hzs : z.cells.size = size)
    (a : Addr) (m c : Nat) (news : List Value) (hm : 0 < m) (hl : news.length = m * size) (hnews : ∀ j u, news[j]? = some u → w.cell? (a.add j) = some u)
    (h63 : m ≤ maxLen) (hbytes : m * bytes ≤ 140737488355328) :
    ∃ v w', (Builtin.append_ #[t, t] ty #[.slice none 0 0, .slice (some a) m c]).run P w = .ok v w' ∧ Appended w e size none [] news m v w' := by
  subst hsize
  subst hby
  have hr := run_append_nil (P := P) w t ty e i z ht hi hz a m c news hl hnews (by omega) (by simp only [maxLen] at h63; omega) (by omega)
  have := append_grown w none e i.size z hzs [] news m 0 (by simpa using hl) h63
  simp only [List.append_nil, List.nil_append, Array.empty_append] at this
  exact ⟨_, _, hr, this⟩

/-- 'append(b, make([]T, k)...)'. -/
theorem run_append_zeros (t t2 ty e : TypeId) (kk : IntKind) (i : TypeInfo) (z : Value) (bytes : Nat) (ht : P.underlying t = some (.slice e)) (ht2 : P.underlying t2 = some (.int kk)) (hi : P.info? e = some i) (hz : i.zero = some z)
    (hsize : i.size = 1) (hby : i.bytes = bytes) (hzs : z.cells = #[z]) (hz1 : z.oneCell' = true)
    (g n cap : Nat) (cur : Array Value) (hg : RowAt w g e cur) (hcs : cur.size = cap) (hnc : n ≤ cap) (hcm : cap ≤ maxLen)
    (m : Nat) (hm0 : 0 < m) (h63 : n + m ≤ maxLen) (hbytes : (n + m) * bytes ≤ 140737488355328) :
    ∃ v w', (Builtin.append_ #[t, t2] ty #[.slice (some ⟨g, 0, none⟩) n cap, .int .i64 m]).run P w = .ok v w' ∧ Appended w e 1 (some g) (cur.toList.take n) (List.replicate m z) (n + m) v w' := by
  subst hby
  have hw : IntKind.i64.wrap (m : Int) = m := IntWalk.i64_in _ ⟨by omega, by simp only [maxLen] at h63; omega⟩
  have hneg : ¬ (m : Int) < 0 := by omega
  have h48 : ¬ (281474976710656 < (m : Int) * i.bytes) := by
    have : m * i.bytes ≤ (n + m) * i.bytes := Nat.mul_le_mul_right _ (by omega)
    have h2 : ((m * i.bytes : Nat) : Int) ≤ 140737488355328 := by omega
    rw [Int.natCast_mul] at h2
    omega
  have hzc : ∀ k, Builtin.zeroCells z.cells k = (List.replicate k z).toArray := fun k => by
    unfold Builtin.zeroCells
    rw [hzs]
    apply Array.ext
    · simp
    · intro j h1 h2; simp [Nat.mod_one]
  have hol : (cur.toList.take n).length = n := by rw [List.length_take, Array.length_toList, hcs, Nat.min_eq_left hnc]
  by_cases hroom : n + m ≤ cap
  · have hst := run_storeCells_row (P := P) g n e (List.replicate m z) 0 cur w hg (by simp; omega) (by simp; exact fun _ => hz1)
    simp only [Nat.add_zero, List.length_replicate] at hst
    refine ⟨.slice (some ⟨g, 0, none⟩) (n + m) cap, w.setRow g (cur.toList.take n ++ List.replicate m z ++ cur.toList.drop (n + m)).toArray, ?_, g, cap, (cur.toList.take n ++ List.replicate m z ++ cur.toList.drop (n + m)).toArray, rfl, hg.setRow (by simp; omega), ?_, hroom, hcm, ?_, .inl rfl, Chg.setRow _ _ _ _ rfl⟩
    · simp [Builtin.append_, run_underlying ht, run_underlying ht2, sizeOf, typeInfo, hi, asInt, asIntOf, hw, hneg, h48, hroom, hsize, zeroValue, hz, hzc, Addr.add_lit, show m ≠ 0 by omega, hst]
    · simp; omega
    · show (cur.toList.take n ++ List.replicate m z ++ cur.toList.drop (n + m)).take ((n + m) * 1) = _
      have : (cur.toList.take n ++ List.replicate m z).length = (n + m) * 1 := by rw [List.length_append, hol]; simp
      rw [← this]; exact List.take_left
  · have hgr := append_grown w (some g) e 1 z (by rw [hzs]; rfl) (cur.toList.take n) (List.replicate m z) (n + m) cap (by rw [List.length_append, hol]; simp) h63
    refine ⟨_, _, ?_, hgr⟩
    have h63' : ¬ (9223372036854775807 < ((n : Int) + (m : Int))) := by simp only [maxLen] at h63; omega
    have h48' : ¬ (281474976710656 < Builtin.nextslicecap (n + m) cap * i.bytes) := by have := growslice_fits (old := cap) (show cap < n + m by omega) hbytes; omega
    have holds : ∀ j u, (cur.toList.take n)[j]? = some u → w.drew.cell? ((⟨g, 0, none⟩ : Addr).add j) = some u := fun j u hu => by
      have hadd : (⟨g, 0, none⟩ : Addr).add j = ⟨g, j, none⟩ := by unfold Addr.add; split <;> simp_all
      rw [hadd]
      refine (show RowAt w.drew g e cur from hg).cell ?_
      rw [List.getElem?_take] at hu
      split at hu
      · simpa using hu
      · cases hu
    have hfo := run_firstCells_some (P := P) w.drew 1 n ⟨g, 0, none⟩ n cap (cur.toList.take n) (by rw [hol]; omega) holds
    simp [Builtin.append_, run_underlying ht, run_underlying ht2, sizeOf, typeInfo, hi, asInt, asIntOf, hw, hneg, h48, hroom, hsize, zeroValue, hz, hzc, show m ≠ 0 by omega, h63', h48', Question.forced, newRow, grownCap, hfo]

/-- The row behind a copy. -/
def spliced (cur : Array Value) (o : Nat) (news : List Value) : Array Value := (cur.toList.take o ++ news ++ cur.toList.drop (o + news.length)).toArray
theorem spliced_size (cur : Array Value) (o : Nat) (news : List Value) (h : o + news.length ≤ cur.size) : (spliced cur o news).size = cur.size := by
  simp [spliced]; omega
theorem run_copy_row (t t2 ty e : TypeId) (i : TypeInfo) (ht : P.underlying t = some (.slice e)) (hi : P.info? e = some i) (hsize : i.size = 1)
    (g o dl dc : Nat) (cur : Array Value) (hg : RowAt w g e cur) (a : Addr) (sl sc n : Nat) (hn : n = min sl dl) (ho : o + n ≤ cur.size)
    (news : List Value) (hl : news.length = n) (hnews : ∀ j u, news[j]? = some u → w.cell? (a.add j) = some u) (h1 : ∀ u ∈ news, u.oneCell' = true) :
    (Builtin.copy_ #[t, t2] ty #[.slice (some ⟨g, o, none⟩) dl dc, .slice (some a) sl sc]).run P w = .ok (.int .i64 (n : Nat)) (w.setRow g (spliced cur o news)) := by
  have hf := run_firstCells_some (P := P) w 1 n a sl sc news (by omega) hnews
  have hst := run_storeCells_row (P := P) g o e news 0 cur w hg (by omega) h1
  simp only [Nat.add_zero] at hst
  have hmin : Nat.min sl dl = n := hn.symm
  simp [Builtin.copy_, run_underlying ht, sizeOf, typeInfo, hi, hsize, Builtin.lenOf, hmin, hf, hst, goInt, spliced]

theorem run_make_row (t e : TypeId) (i : TypeInfo) (z : Value) (bytes : Nat) (ht : P.underlying t = some (.slice e)) (hi : P.info? e = some i) (hz : i.zero = some z)
    (hsize : i.size = 1) (hby : i.bytes = bytes) (hzs : z.cells = #[z]) (n : Nat) (h63 : n ≤ maxLen) (hbytes : n * bytes ≤ 140737488355328) :
    (Instr.makeSlice t (.int .i64 n) (.int .i64 n)).run P w = .ok (.slice (some ⟨w.heap.size, 0, none⟩) n n) (w.alloc (.cells (List.replicate n z).toArray e)) := by
  subst hby
  have hb : (i.bytes : Int) * (n : Int) ≤ 281474976710656 := by
    have h2 : ((n * i.bytes : Nat) : Int) ≤ 140737488355328 := by omega
    rw [Int.natCast_mul, Int.mul_comm] at h2
    omega
  have h := run_make (P := P) w t e i z ht hi hz .i64 .i64 n n (by omega) (by omega) hb (by simp only [maxLen] at h63; omega)
  rw [h]
  simp only [Int.toNat_natCast, hsize, Nat.mul_one]
  congr 3
  unfold madeCells
  rw [hzs]
  apply Array.ext
  · simp
  · intro j h1 h2; simp [Nat.mod_one]

theorem exec_copy {w w' : World} {o : Oper} {ρ : Operand → Value} {s x : Operand} {t u : TypeId} {v : Value} (ho : o.op = .call { callee := .builtin .copy, args := #[s, x], argTypes := #[t, u] })
    (h : (Builtin.copy_ #[t, u] o.type #[ρ s, ρ x]).run P w = .ok v w') : (execOp ρ o).run P w = .ok (.value v) w' := by
  unfold execOp
  simp only [ho, resolve, invoke, builtin, Sem.run_bind, Sem.run_pure, Result.andThen_ok, List.map_toArray, List.map_cons, List.map_nil, h]
theorem exec_append {w w' : World} {o : Oper} {ρ : Operand → Value} {s x : Operand} {t u : TypeId} {v : Value} (ho : o.op = .call { callee := .builtin .append, args := #[s, x], argTypes := #[t, u] })
    (h : (Builtin.append_ #[t, u] o.type #[ρ s, ρ x]).run P w = .ok v w') : (execOp ρ o).run P w = .ok (.value v) w' := by
  unfold execOp
  simp only [ho, resolve, invoke, builtin, Sem.run_bind, Sem.run_pure, Result.andThen_ok, List.map_toArray, List.map_cons, List.map_nil, h]

theorem row_splice {cur : Array Value} {a b c news : List Value} (h : cur.toList = a ++ (b ++ c)) (hl : news.length = b.length) {o : Nat} (ho : o = a.length) : (spliced cur o news).toList = a ++ (news ++ c) := by
  subst ho
  show cur.toList.take a.length ++ news ++ cur.toList.drop (a.length + news.length) = _
  rw [h, hl, List.take_left, ← List.drop_drop, List.drop_left, List.drop_left, List.append_assoc]
theorem row_wrs {cur : Array Value} {a b c b' : List Value} (h : cur.toList = a ++ (b ++ c)) (hl : b'.length = b.length) {o : Nat} (ho : o = a.length) : (wrs cur o b').toList = a ++ (b' ++ c) := by
  subst ho
  have : cur = (a ++ (b ++ c)).toArray := by rw [← h]
  rw [this, wrs_list b' b a c hl]
theorem row_cells {w : World} {g : Nat} {cur : Array Value} {e : TypeId} (hg : RowAt w g e cur) {a b c : List Value} (h : cur.toList = a ++ (b ++ c)) {o : Nat} (ho : o = a.length) :
    ∀ j u, b[j]? = some u → w.cell? ((⟨g, o, none⟩ : Addr).add j) = some u := by
  subst ho
  intro j u hu
  rw [Addr.add_lit]
  refine hg.cell ?_
  rw [← Array.getElem?_toList, h, List.getElem?_append_right (by omega), show a.length + j - a.length = j by omega, List.getElem?_append_left (List.getElem?_eq_some_iff.1 hu).1]
  exact hu
theorem row_take {cur : Array Value} {n : Nat} {bs : List Value} (h : cur.toList.take n = bs) : ∃ R, cur.toList = bs ++ R :=
  ⟨cur.toList.drop n, by rw [← h, List.take_append_drop]⟩
end
end Go.Proofs.YtbjpfnafhhbmaaaDoor

namespace Go.Proofs.YtbjpfnafhhbmaaaDoor
set_option linter.unusedVariables false
set_option linter.unusedSimpArgs false
open Go.RowKit Go.ChangeShapes Go.WideShapes Go.Deep
section
variable {H : Type} {enc : TypeId × Value → H} {P : Program} {w : World} {base : Nat} {spare : Nat → Bool} {held : Bool} {fuel : Nat} {t e : TypeId}
theorem float_cell {k : FloatKind} {v : Value} {x : DataW H × List MemPlace} (ht : P.underlying t = some (.float k)) (h : DataW.trod enc P w base spare held fuel t [v] = some x) : ∃ b, v = .float k b ∧ x.2 = [] := by
  cases fuel with
  | zero => simp [DataW.trod] at h
  | succ n =>
    unfold DataW.trod at h
    rw [ht] at h
    split at h <;> simp_all
    rw [← h.2]
theorem int_cell {k : IntKind} {v : Value} {x : DataW H × List MemPlace} (ht : P.underlying t = some (.int k)) (h : DataW.trod enc P w base spare held fuel t [v] = some x) : ∃ n, v = .int k n ∧ x.2 = [] ∧ (Lit.int k n).wf = true := by
  obtain ⟨n, h1, h2, h3⟩ := DataW.trod_int ht h
  exact ⟨n, by simpa using h1, by rw [h2], h3⟩
/-- A slice that came in: its cells are there. -/
def ArgRow (w : World) (a : Option Addr) (len cap : Nat) (f : Nat → Value) : Prop :=
  len ≤ cap ∧ (len = 0 ∨ ∃ b o, a = some ⟨b, o, none⟩ ∧ ∀ i, i < len → w.cell? ⟨b, o + i, none⟩ = some (f i))
theorem argRow_of {x : Addr} {len cap : Nat} {f : Nat → Value} (hl : len ≤ cap) (h : ∀ i, i < len → w.cell? (x.add i) = some (f i)) : ArgRow w (some x) len cap f := by
  refine ⟨hl, ?_⟩
  by_cases h0 : len = 0
  · exact .inl h0
  · right
    have hx : x.spot = none := by
      have := h 0 (by omega)
      simp only [Addr.add, if_pos] at this
      unfold World.cell? at this
      split at this
      · split at this
        · cases this
        · rename_i hs; simpa using hs
      · cases this
    obtain ⟨b, o, s⟩ := x
    simp only at hx
    subst hx
    refine ⟨b, o, rfl, fun i hi => ?_⟩
    have := h i hi
    rwa [add_plain] at this
theorem ints_arg {k : IntKind} {a : Option Addr} {len cap : Nat} {d : DataW H} {ps : List MemPlace} (ht : P.underlying t = some (.slice e)) (he : P.underlying e = some (.int k)) (hc : P.cellsOf e = 1)
    (h : DataW.Trod enc P w base spare held t (.slice a len cap) d ps) :
    ∃ zs : List Int, zs.length = len ∧ ArgRow w a len cap (fun i => .int k (zs.getD i 0)) ∧ ∀ n ∈ zs, (Lit.int k n).wf = true := by
  obtain ⟨fuel, hf⟩ := h
  rcases open_ints ht he hc hf with ⟨hcs, _⟩ | ⟨x, l, c, zs, hcs, _, hl, hm, hz, _, hcell, hwz⟩
  · simp [Value.cells] at hcs
    obtain ⟨rfl, rfl, rfl⟩ := hcs
    exact ⟨[], rfl, ⟨Nat.le_refl _, .inl rfl⟩, by simp⟩
  · simp [Value.cells] at hcs
    obtain ⟨rfl, rfl, rfl⟩ := hcs
    have hle : len ≤ zs.length := by rw [hz]; split <;> omega
    refine ⟨zs.take len, by simp; omega, argRow_of hl fun i hi => ?_, fun n hn => hwz n (List.mem_of_mem_take hn)⟩
    rw [hcell i (by omega)]
    simp [List.getD, List.getElem?_take, hi]
theorem strs_arg {a : Option Addr} {len cap : Nat} {d : DataW H} {ps : List MemPlace} (ht : P.underlying t = some (.slice e)) (he : P.underlying e = some .string) (hc : P.cellsOf e = 1)
    (h : DataW.Trod enc P w base spare held t (.slice a len cap) d ps) :
    ∃ zs : List ByteArray, zs.length = len ∧ ArgRow w a len cap (fun i => .string (zs.getD i ByteArray.empty)) := by
  obtain ⟨fuel, hf⟩ := h
  rcases open_slice1 ht hc hf with ⟨hcs, _⟩ | ⟨x, l, c, m, n, V, D, Pl, hcs, _, hl, hm, hmm, _, hV⟩
  · simp [Value.cells] at hcs
    obtain ⟨rfl, rfl, rfl⟩ := hcs
    exact ⟨[], rfl, ⟨Nat.le_refl _, .inl rfl⟩⟩
  · simp [Value.cells] at hcs
    obtain ⟨rfl, rfl, rfl⟩ := hcs
    have hle : len ≤ m := by rw [hmm]; split <;> omega
    have each : ∀ i, i < m → ∃ s : ByteArray, V i = .string s := fun i hi => by
      obtain ⟨s, hs, _⟩ := DataW.trod_string he (hV i hi).2
      exact ⟨s, by simpa using hs⟩
    obtain ⟨S, hS⟩ := choose_lt each
    refine ⟨(List.range len).map S, by simp, argRow_of hl fun i hi => ?_⟩
    rw [(hV i (by omega)).1, hS i (by omega)]
    simp [List.getD, hi]
/-- A slice of structs of two one-cell numbers that came in. -/
def RecRow (w : World) (a : Option Addr) (len cap : Nat) (f g : Nat → Value) : Prop :=
  len ≤ cap ∧ (len = 0 ∨ ∃ b o, a = some ⟨b, o, none⟩ ∧ ∀ i, i < len → w.cell? ⟨b, o + i * 2, none⟩ = some (f i) ∧ w.cell? ⟨b, o + i * 2 + 1, none⟩ = some (g i))
theorem recs_arg {f0 f1 : Field} {k0 k1 : IntKind} {a : Option Addr} {len cap : Nat} {d : DataW H} {ps : List MemPlace} (ht : P.underlying t = some (.slice e)) (he : P.underlying e = some (.struct #[f0, f1]))
    (ce : P.cellsOf e = 2) (o0 : f0.offset = 0) (o1 : f1.offset = 1) (c0 : P.cellsOf f0.type = 1) (c1 : P.cellsOf f1.type = 1) (u0 : P.underlying f0.type = some (.int k0)) (u1 : P.underlying f1.type = some (.int k1))
    (h : DataW.Trod enc P w base spare held t (.slice a len cap) d ps) :
    ∃ zs : List (Int × Int), zs.length = len ∧ RecRow w a len cap (fun i => .int k0 (zs.getD i (0, 0)).1) (fun i => .int k1 (zs.getD i (0, 0)).2) ∧ ∀ n ∈ zs, (Lit.int k0 n.1).wf = true ∧ (Lit.int k1 n.2).wf = true := by
  obtain ⟨fuel, hf⟩ := h
  rcases open_slice_pairs ht he ce o0 o1 c0 c1 hf with ⟨hcs, _⟩ | ⟨x, l, c, m, n, V0, V1, D0, D1, P0, P1, hcs, _, hl, hm, hmm, _, hV⟩
  · simp [Value.cells] at hcs
    obtain ⟨rfl, rfl, rfl⟩ := hcs
    exact ⟨[], rfl, ⟨Nat.le_refl _, .inl rfl⟩, by simp⟩
  · simp [Value.cells] at hcs
    obtain ⟨rfl, rfl, rfl⟩ := hcs
    have hle : len ≤ m := by rw [hmm]; split <;> omega
    have each : ∀ i, i < m → ∃ s : Int × Int, V0 i = .int k0 s.1 ∧ V1 i = .int k1 s.2 ∧ (Lit.int k0 s.1).wf = true ∧ (Lit.int k1 s.2).wf = true := fun i hi => by
      obtain ⟨_, _, g0, g1⟩ := hV i hi
      obtain ⟨n0, e0, _, w0⟩ := int_cell u0 g0
      obtain ⟨n1, e1, _, w1⟩ := int_cell u1 g1
      exact ⟨(n0, n1), e0, e1, w0, w1⟩
    obtain ⟨S, hS⟩ := choose_lt each
    refine ⟨(List.range len).map S, by simp, ⟨hl, ?_⟩, fun n hn => ?_⟩
    · by_cases h0 : len = 0
      · exact .inl h0
      · right
        obtain ⟨_, b, o, hx, hcells⟩ := argRow_of (w := w) (x := x) (len := 1) (cap := 1) (f := fun _ => V0 0) (Nat.le_refl _) (fun i hi => by
          have : i = 0 := by omega
          subst this
          simpa using (hV 0 (by omega)).1) |>.imp id (fun h => h.resolve_left (by omega))
        cases hx
        refine ⟨b, o, rfl, fun i hi => ?_⟩
        obtain ⟨g0, g1, _⟩ := hV i (by omega)
        rw [add_plain] at g0 g1
        rw [g0, show o + i * 2 + 1 = o + (i * 2 + 1) by omega, g1, (hS i (by omega)).1, (hS i (by omega)).2.1]
        simp [List.getD, hi]
    · obtain ⟨i, hi, rfl⟩ := List.mem_map.1 hn
      have := List.mem_range.1 hi
      exact (hS i (by omega)).2.2
end
end Go.Proofs.YtbjpfnafhhbmaaaDoor

/- Slices that a call has made itself, of elements of one cell. -/
namespace Go.Proofs.YtbjpfnafhhbmaaaDoor
set_option linter.unusedVariables false
set_option linter.unusedSimpArgs false
open Go.RowKit
/-- The slice value v holds n elements xs; its row lies in a block from B on. -/
def SliceIs (w : World) (B : Nat) (e : TypeId) (v : Value) (n : Nat) (xs : List Value) : Prop :=
  xs.length = n ∧ ((v = .slice none 0 0 ∧ n = 0) ∨ ∃ g cap cur, v = .slice (some ⟨g, 0, none⟩) n cap ∧ B ≤ g ∧ RowAt w g e cur ∧ cur.size = cap ∧ n ≤ cap ∧ cap ≤ maxLen ∧ cur.toList.take n = xs)
theorem SliceIs.nil (w : World) (B : Nat) (e : TypeId) : SliceIs w B e (.slice none 0 0) 0 [] := ⟨rfl, .inl ⟨rfl, rfl⟩⟩
section
variable {w : World} {B : Nat} {e : TypeId} {v : Value} {n : Nat} {xs : List Value}
theorem SliceIs.below (h : SliceIs w B e v n xs) {w' : World} (hb : Below w.heap.size w w') : SliceIs w' B e v n xs := by
  refine ⟨h.1, h.2.imp id ?_⟩
  rintro ⟨g, cap, cur, h1, h2, h3, h4⟩
  exact ⟨g, cap, cur, h1, h2, h3.keep (Chg.of_below (fun _ => False) hb) id, h4⟩
theorem SliceIs.arg (h : SliceIs w B e v n xs) : ∃ a cap, v = .slice a n cap ∧ ArgRow w a n cap (fun i => xs.getD i undef) := by
  rcases h.2 with ⟨rfl, rfl⟩ | ⟨g, cap, cur, rfl, _, h3, h4, h5, _, h7⟩
  · exact ⟨none, 0, rfl, Nat.le_refl _, .inl rfl⟩
  · refine ⟨some ⟨g, 0, none⟩, cap, rfl, h5, .inr ⟨g, 0, rfl, fun i hi => ?_⟩⟩
    have hx : xs[i]? = cur[i]? := by
      rw [← h7, List.getElem?_take_of_lt hi, Array.getElem?_toList]
    have hlt : i < xs.length := by rw [h.1]; exact hi
    rw [Nat.zero_add, h3.cell (v := xs.getD i undef) (by rw [← hx]; simp [List.getD, hlt])]
theorem run_append_local {P : Program} {t ty : TypeId} {i : TypeInfo} {z : Value} {bytes : Nat} (ht : P.underlying t = some (.slice e)) (hi : P.info? e = some i) (hz : i.zero = some z)
    (hsize : i.size = 1) (hby : i.bytes = bytes) (hzs : z.cells.size = 1) (h : SliceIs w B e v n xs) (hB : B ≤ w.heap.size)
    (a : Addr) (m c : Nat) (news : List Value) (hm : 0 < m) (hl : news.length = m) (hnews : ∀ j u, news[j]? = some u → w.cell? (a.add j) = some u) (h1 : ∀ u ∈ news, u.oneCell' = true)
    (h63 : n + m ≤ maxLen) (hbytes : (n + m) * bytes ≤ 140737488355328) :
    ∃ v' w', (Builtin.append_ #[t, t] ty #[v, .slice (some a) m c]).run P w = .ok v' w' ∧ SliceIs w' B e v' (n + m) (xs ++ news) ∧ Below B w w' := by
  have fin : ∀ (g : Option Nat) (olds : List Value) v' w', (∀ k, g = some k → B ≤ k) → olds = xs → Appended w e 1 g olds news (n + m) v' w' → SliceIs w' B e v' (n + m) (xs ++ news) ∧ Below B w w' := by
    rintro g olds v' w' hg rfl ⟨g', cap', cur', rfl, q1, q2, q3, q4, q5, q6, q7⟩
    refine ⟨⟨by rw [List.length_append, h.1, hl], .inr ⟨g', cap', cur', rfl, ?_, q1, by omega, q3, q4, by rw [← q5, Nat.mul_one]⟩⟩, belowChg (Below.refl _ _) q7 hB fun k hk _ => hg k hk.symm⟩
    rcases q6 with q6 | q6
    · exact hg g' q6.symm
    · omega
  rcases h.2 with ⟨rfl, rfl⟩ | ⟨g, cap, cur, rfl, h2, h3, h4, h5, h6, h7⟩
  · obtain ⟨v', w', hr, hp⟩ := run_append_row_nil (P := P) w t ty e i z 1 bytes ht hi hz hsize hby hzs a m c news hm (by omega) hnews (by omega) (by simpa using hbytes)
    have hx : [] = xs := (List.eq_nil_of_length_eq_zero h.1).symm
    refine ⟨v', w', hr, fin none [] v' w' (by simp) hx ?_⟩
    rw [Nat.zero_add]; exact hp
  · obtain ⟨v', w', hr, hp⟩ := run_append_row (P := P) w t ty e i z 1 bytes ht hi hz hsize hby hzs g n cap cur h3 (by omega) h5 h6 a m c news (by omega) hnews h1 h63 hbytes
    exact ⟨v', w', hr, fin (some g) _ v' w' (fun k hk => by cases hk; exact h2) (by rw [Nat.mul_one]; exact h7) hp⟩
/-- One element more, which the call has laid in a block of its own. -/
theorem run_append_one {P : Program} {t ty : TypeId} {i : TypeInfo} {z : Value} {bytes : Nat} (ht : P.underlying t = some (.slice e)) (hi : P.info? e = some i) (hz : i.zero = some z)
    (hsize : i.size = 1) (hby : i.bytes = bytes) (hzs : z.cells.size = 1) (h : SliceIs w B e v n xs) (hB : B ≤ w.heap.size) (u : Value) (hu : u.oneCell' = true)
    (h63 : n + 1 ≤ maxLen) (hbytes : (n + 1) * bytes ≤ 140737488355328) :
    ∃ v' w', (Builtin.append_ #[t, t] ty #[v, .slice (some ⟨w.heap.size, 0, none⟩) 1 1]).run P (w.alloc (.cells #[u] e)) = .ok v' w' ∧ SliceIs w' B e v' (n + 1) (xs ++ [u]) ∧ Below B w w' := by
  have hb : Below w.heap.size w (w.alloc (.cells #[u] e)) := (Below.refl _ _).alloc (Nat.le_refl _) _
  obtain ⟨v', w', hr, h2, h3⟩ := run_append_local (P := P) (ty := ty) ht hi hz hsize hby hzs (h.below hb) (by simp; omega) ⟨w.heap.size, 0, none⟩ 1 1 [u] (by omega) rfl (fun j x hx => by
    have hj : j = 0 := by have := (List.getElem?_eq_some_iff.1 hx).1; simpa using this
    subst hj
    rw [Addr.add_lit]
    refine cell_in (heap_new w _) ?_
    simpa using hx) (by simpa using hu) h63 hbytes
  exact ⟨v', w', hr, h2, (hb.mono hB).trans h3⟩
end
/-- An append in a region that does not draw, its run known. -/
theorem wpList_append_run {P : Program} {ops : Array Oper} {Q : Exit → Act → World → Prop} {rest : List Oper} {o : Oper} {a : Act} {w w' : World} {s x : Operand} {t u : TypeId} {v : Value} (hg : o.guard = none)
    (ho : o.op = .call { callee := .builtin .append, args := #[s, x], argTypes := #[t, u] }) (hr : (Builtin.append_ #[t, u] o.type #[a.eval s, a.eval x]).run P w = .ok v w')
    (h : wpList P ops Q rest (a.put o.dst v) w') : wpList P ops Q (o :: rest) a w :=
  wpList_plain hg fun K hK => by unfold Oper.wp; rw [exec_append ho hr]; exact hK _ _ h
end Go.Proofs.YtbjpfnafhhbmaaaDoor

/- Strings of bytes. -/
namespace Go.Proofs.YtbjpfnafhhbmaaaDoor
set_option linter.unusedVariables false
set_option linter.unusedSimpArgs false
open Go.RowKit
/-- The string of these bytes. -/
def strOf (bs : List UInt8) : ByteArray := ⟨bs.toArray⟩
@[simp] theorem strOf_size (bs : List UInt8) : (strOf bs).size = bs.length := by simp [strOf, ByteArray.size]
@[simp] theorem strOf_data (bs : List UInt8) : (strOf bs).data.toList = bs := by simp [strOf]
theorem strOf_inj {a b : List UInt8} (h : strOf a = strOf b) : a = b := by
  have := congrArg (fun s : ByteArray => s.data.toList) h
  simpa using this
theorem strOf_toList (s : ByteArray) : strOf s.data.toList = s := by cases s; simp [strOf]
theorem fold_push (bs : List UInt8) : ∀ s : ByteArray, (bs.map fun c => (c.toNat : Int)).foldl (fun r n => r.push (UInt8.ofNat n.toNat)) s = ⟨s.data ++ bs.toArray⟩ := by
  induction bs with
  | nil => intro s; simp
  | cons c bs ih =>
    intro s
    simp only [List.map_cons, List.foldl_cons, ih]
    simp [ByteArray.push]
theorem run_string_row {P : Program} (w : World) (src dst e : TypeId) (hs : P.underlying src = some (.slice e)) (he : P.underlying e = some (.int .u8)) (hd : P.underlying dst = some .string)
    (b o n cap : Nat) (bs : List UInt8) (hn : bs.length = n) (hc : ∀ i (h : i < bs.length), w.cell? ⟨b, o + i, none⟩ = some (.int .u8 bs[i].toNat)) :
    (convert src dst (.slice (some ⟨b, o, none⟩) n cap)).run P w = .ok (.string (strOf bs)) w := by
  subst hn
  rw [run_convert_bytes_string w src dst e _ _ _ hs he hd, run_bytesToString (ns := bs.map fun c => (c.toNat : Int))]
  · rw [fold_push]; simp [strOf, ByteArray.empty, ByteArray.emptyWithCapacity]; rfl
  · have := run_loadCells_list (P := P) w ⟨b, o, none⟩ (bs.map u8v) (fun j v hv => by
      rw [List.getElem?_map] at hv
      cases hb : bs[j]? with
      | none => rw [hb] at hv; cases hv
      | some c =>
        rw [hb] at hv
        obtain ⟨hj, hcj⟩ := List.getElem?_eq_some_iff.1 hb
        rw [Addr.add_lit, hc j hj, hcj]
        simpa using hv)
    rw [List.length_map] at this
    rw [this, List.map_map]; rfl
theorem run_string_nil {P : Program} (w : World) (src dst e : TypeId) (hs : P.underlying src = some (.slice e)) (he : P.underlying e = some (.int .u8)) (hd : P.underlying dst = some .string) (n c : Nat) :
    (convert src dst (.slice none n c)).run P w = .ok (.string (strOf [])) w := by
  rw [run_convert_bytes_string w src dst e _ _ _ hs he hd]
  simp [Conv.bytesToString]
  rfl
/-- '[]byte(s)': a new row, its capacity open. -/
theorem run_bytes_string {P : Program} (w : World) (src dst e : TypeId) (hs : P.underlying src = some .string) (hd : P.underlying dst = some (.slice e)) (he : P.underlying e = some (.int .u8)) (s : ByteArray) (hsz : s.size ≤ 140737488351232) :
    ∃ cap cur w', (convert src dst (.string s)).run P w = .ok (.slice (some ⟨w.heap.size, 0, none⟩) s.size cap) w' ∧ RowAt w' w.heap.size e cur ∧ cur.size = cap ∧ s.size ≤ cap ∧ cap ≤ maxLen ∧
      cur.toList.take s.size = s.data.toList.map u8v ∧ Chg (fun _ => False) w w' := by
  obtain ⟨cap, hcap⟩ : ∃ cap, cap = (Question.appendCap s.size 0 e).cut (w.tape w.drawn (.appendCap s.size 0 e)) := ⟨_, rfl⟩
  have hge : s.size ≤ cap := by rw [hcap]; simp [Question.cut]
  have hle : cap ≤ maxLen := by rw [hcap]; exact grownCap_le_maxLen w s.size 0 e (by unfold maxLen; omega)
  obtain ⟨cur, hcur⟩ : ∃ cur, cur = s.data.map (fun b => Value.int .u8 b.toNat) ++ Array.replicate (cap - s.size) (Value.int .u8 0) := ⟨_, rfl⟩
  have hsize : cur.size = cap := by
    rw [hcur, Array.size_append, Array.size_map, Array.size_replicate]
    show s.size + (cap - s.size) = cap
    omega
  refine ⟨cap, cur, (w.drew.alloc (.cells cur e)).freeze ⟨w.heap.size, cap, none⟩ 1, ?_, ?_, hsize, hge, hle, ?_, ?_⟩
  · simp [convert, run_underlying hs, run_underlying hd, run_underlying he, Conv.stringToBytes, Question.forced, newRow, markStringish]
    rw [← hcap, ← hcur]
    have hsh : (w.drew.alloc (.cells cur e)).shape? w.heap.size = some (e, cap) := by
      simp only [World.shape?]
      rw [show w.heap.size = w.drew.heap.size from rfl, heap_new]
      simp [hsize]
    rw [hsh]
    simp [freeze, Sem.run]
  · have hh : ((w.drew.alloc (.cells cur e)).freeze ⟨w.heap.size, cap, none⟩ 1).heap[w.heap.size]? = some (.cells cur e (cap, cap + 1)) := by
      unfold World.freeze
      simp only [Nat.one_ne_zero, if_false, Array.getElem?_modify]
      rw [show w.heap.size = w.drew.heap.size from rfl, heap_new]
      simp
    exact ⟨_, fun i hi => by simp; omega, hh⟩
  · rw [hcur, Array.toList_append, Array.toList_map, List.take_left' (by rw [List.length_map, Array.length_toList]; rfl)]
  · refine ⟨rfl, rfl, rfl, ?_, fun k hk _ => ?_⟩
    · simp [World.freeze]
    · unfold World.freeze
      simp only [Nat.one_ne_zero, if_false, Array.getElem?_modify]
      rw [if_neg (by omega)]
      exact Below.heap_alloc w.drew _ k hk
end Go.Proofs.YtbjpfnafhhbmaaaDoor

/- Regions that draw their order: one walk in the text's order serves every order, where the operations that write (and calls) stand in one line, and the others read only what stays. -/
namespace Go.Proofs.YtbjpfnafhhbmaaaDoor
set_option linter.unusedVariables false
set_option linter.unusedSimpArgs false

/-- Operation i waits for operation k, by whatever road. -/
inductive Dep (md : Region.Mode) (ops : Array Oper) (k : Nat) : Nat → Prop
  | direct {i : Nat} {o : Oper} {e : Edge} (ho : ops[i]? = some o) (he : e ∈ o.after) (hb : Region.binds md e = true) (hk : e.on = k) : Dep md ops k i
  | trans {i : Nat} {o : Oper} {e : Edge} (ho : ops[i]? = some o) (he : e ∈ o.after) (hb : Region.binds md e = true) (hd : Dep md ops k e.on) : Dep md ops k i

def depB (md : Region.Mode) (ops : Array Oper) (k : Nat) : Nat → Nat → Bool
  | 0, _ => false
  | fuel + 1, i => match ops[i]? with
    | some o => o.after.any fun e => Region.binds md e && (e.on == k || (decide (k < e.on) && depB md ops k fuel e.on))
    | none => false
theorem depB_spec {md : Region.Mode} {ops : Array Oper} {k : Nat} : ∀ (fuel i : Nat), depB md ops k fuel i = true → Dep md ops k i
  | 0, i, h => by simp [depB] at h
  | fuel + 1, i, h => by
    unfold depB at h
    split at h
    · rename_i o ho
      obtain ⟨e, he, hb⟩ := Array.any_eq_true'.1 h
      simp only [Bool.and_eq_true, Bool.or_eq_true, beq_iff_eq] at hb
      obtain ⟨hb1, hb2⟩ := hb
      rcases hb2 with hb2 | hb2
      · exact .direct ho he hb1 hb2
      · exact .trans ho he hb1 (depB_spec fuel _ hb2.2)
    · cases h

section
variable {P : Program} {ops : Array Oper} {md : Region.Mode}

theorem apart_symm {x y : Oper} (h : x.apart ops y = true) : y.apart ops x = true := by
  obtain ⟨h1, h2, h3⟩ := Oper.apart_spec h
  unfold Oper.apart
  cases hx : x.dst <;> cases hy : y.dst <;> simp
  · exact h3 _ hy
  · exact h1 _ hx
  · exact ⟨⟨h3 _ hy, fun e => h2 _ hx (by rw [hy, e])⟩, h1 _ hx⟩
/-- What waits is listed behind what it waits for. -/
def Closed (md : Region.Mode) (ops : Array Oper) (listed : Array Bool) : Prop :=
  ∀ j o, ops[j]? = some o → listed.getD j false = true → ∀ e ∈ o.after, Region.binds md e = true → listed.getD e.on false = true
theorem Closed.set {listed : Array Bool} {i : Nat} (h : Closed md ops listed) (hi : i ∈ Region.ready md ops listed) : Closed md ops (listed.setIfInBounds i true) := by
  obtain ⟨_, oi, hoi, hall⟩ := mem_ready.1 hi
  intro j oj hj hl e he hb
  by_cases hij : i = j
  · subst hij
    have : oj = oi := Option.some.inj (hj.symm.trans hoi)
    subst this
    exact getD_set_true (hall e he hb)
  · rw [getD_set_ne false hij] at hl
    exact getD_set_true (h j oj hj hl e he hb)
theorem Closed.dep {listed : Array Bool} (h : Closed md ops listed) {k i : Nat} (hk : listed.getD k false = false) (hd : Dep md ops k i) :
    listed.getD i false = false ∧ i ∉ Region.ready md ops listed := by
  induction hd with
  | direct ho he hb hek =>
    subst hek
    constructor
    · cases hl : listed.getD _ false
      · rfl
      · rw [h _ _ ho hl _ he hb] at hk; cases hk
    · intro hr
      obtain ⟨_, o', ho', hall⟩ := mem_ready.1 hr
      cases Option.some.inj (ho.symm.trans ho')
      rw [hall _ he hb] at hk; cases hk
  | trans ho he hb _ ih =>
    constructor
    · cases hl : listed.getD _ false
      · rfl
      · rw [h _ _ ho hl _ he hb] at ih; cases ih.1
    · intro hr
      obtain ⟨_, o', ho', hall⟩ := mem_ready.1 hr
      cases Option.some.inj (ho.symm.trans ho')
      rw [hall _ he hb] at ih; cases ih.1

/-- One operation hands back the value and leaves the world. -/
def calmAt (P : Program) (o : Oper) (a : Act) (v : Value) (w : World) : Prop :=
  (execOp a.eval o).run P w = .ok (.value v) w ∨ ((execOp a.eval o).run P w = .ok .skip w ∧ v = undef)
theorem calmAt_det {o : Oper} {a : Act} {v v' : Value} {w : World} (h : calmAt P o a v w) (h' : calmAt P o a v' w) : v = v' := by
  rcases h with h | ⟨h, rfl⟩ <;> rcases h' with h' | ⟨h', rfl⟩ <;> rw [h] at h' <;> cases h' <;> rfl

def Calm (P : Program) (ops : Array Oper) (C : World → Prop) (o : Oper) (v : Value) (a : Act) : Prop :=
  (Region.wanted o (yielded ops a.tmps) = true ∧ ∀ w, C w → calmAt P o a v w) ∨ (Region.wanted o (yielded ops a.tmps) = false ∧ v = undef)

variable {C : World → Prop}
theorem Calm.of_same {o : Oper} {v : Value} {a a' : Act} (hy : Calm P ops C o v a) (he : execOp a'.eval o = execOp a.eval o)
    (hw : Region.wanted o (yielded ops a'.tmps) = Region.wanted o (yielded ops a.tmps)) : Calm P ops C o v a' := by
  unfold Calm calmAt at *
  rw [he, hw]
  exact hy
theorem Calm.det {o : Oper} {v v' : Value} {a : Act} {w : World} (hC : C w) (h : Calm P ops C o v a) (h' : Calm P ops C o v' a) : v = v' := by
  rcases h with ⟨h1, h⟩ | ⟨h1, rfl⟩ <;> rcases h' with ⟨h2, h'⟩ | ⟨h2, rfl⟩
  · exact calmAt_det (h w hC) (h' w hC)
  · rw [h1] at h2; cases h2
  · rw [h1] at h2; cases h2
  · rfl

def QF : Exit → Act → World → Prop := fun _ _ _ => False

/-- An operation whose run is followed as it stands. -/
def loudOp (P : Program) (ops : Array Oper) (o : Oper) (K : Act → World → Prop) (a : Act) (w : World) : Prop :=
  if Region.wanted o (yielded ops a.tmps) then o.wp P a w K QF else K (a.put o.dst undef) w
theorem loudOp_mono {o : Oper} {K K' : Act → World → Prop} {a : Act} {w : World} (h : ∀ a w, K a w → K' a w) (hh : loudOp P ops o K a w) : loudOp P ops o K' a w := by
  unfold loudOp at *
  split
  · rename_i hw; simp only [hw, if_true] at hh; exact Oper.wp_mono h hh
  · rename_i hw; simp only [hw] at hh; exact h _ _ hh

/-- There is an end to it. -/
theorem loudOp_some {o : Oper} {K : Act → World → Prop} {a : Act} {w : World} (h : loudOp P ops o K a w) : ∃ ds u w', K (({ a with defers := ds } : Act).put o.dst u) w' := by
  unfold loudOp at h
  split at h
  · unfold Oper.wp at h
    generalize (execOp a.eval o).run P w = r at h
    cases r with
    | ok n w' =>
      cases n <;> simp only [Oper.upon] at h
      case value u => exact ⟨a.defers, u, w', h⟩
      case skip => exact ⟨a.defers, undef, w', h⟩
      case defer d => exact ⟨_, undef, w', h⟩
      case enter f args =>
        obtain ⟨e, w'', _, hR, _⟩ := h []
        cases e with
        | returned v => exact ⟨a.defers, v, w'', hR⟩
        | panicked c => exact hR.elim
        | outgrown => obtain ⟨_, _, hR⟩ := hR; exact hR.elim
      case row row args =>
        obtain ⟨v, w'', hR, _⟩ := h default []
        exact ⟨a.defers, v, w'', hR⟩
    | halt x w' => cases x <;> simp only [Oper.upon, QF] at h
  · exact ⟨a.defers, undef, w, h⟩

theorem loudOp_pull {oi oj : Oper} {v : Value} (hap : oi.apart ops oj = true) (hsj : ∀ cs b, oj.op ≠ .select cs b) {K : Act → World → Prop} {a : Act} {w : World}
    (h : loudOp P ops oj (fun a' w' => K (a'.put oi.dst v) w') a w) : loudOp P ops oj K (a.put oi.dst v) w := by
  obtain ⟨h1, h2, h3⟩ := Oper.apart_spec hap
  unfold loudOp at *
  rw [wanted_put oj a oi.dst v h1]
  split
  · rename_i hw
    simp only [hw, if_true] at h
    unfold Oper.wp at *
    rw [execOp_put oj hsj a oi.dst v h1]
    generalize (execOp a.eval oj).run P w = r at *
    cases r with
    | ok n w' =>
      cases n <;> simp only [Oper.upon] at h ⊢
      case value u => rw [Act.put_comm a v u h2]; exact h
      case skip => rw [Act.put_comm a v undef h2]; exact h
      case defer d => rw [Act.put_defers, Act.put_comm _ v undef h2]; exact h
      case enter f args =>
        refine Calls.mono h fun e w'' he => ?_
        cases e with
        | returned u => show K ((a.put oi.dst v).put oj.dst u) w''; rw [Act.put_comm a v u h2]; exact he
        | panicked c => exact he
        | outgrown => exact he
      case row row args => exact Rows.mono h fun u w'' he => by rw [Act.put_comm a v u h2]; exact he
    | halt x w' => cases x <;> simp only [Oper.upon] at h ⊢ <;> exact h
  · rename_i hw
    simp only [hw] at h
    rw [Act.put_comm a v undef h2]; exact h
theorem loudOp_push {oi oj : Oper} {v : Value} (hap : oi.apart ops oj = true) (hsj : ∀ cs b, oj.op ≠ .select cs b) {K : Act → World → Prop} {a : Act} {w : World}
    (h : loudOp P ops oj K (a.put oi.dst v) w) : loudOp P ops oj (fun a' w' => K (a'.put oi.dst v) w') a w := by
  obtain ⟨h1, h2, h3⟩ := Oper.apart_spec hap
  unfold loudOp at *
  rw [wanted_put oj a oi.dst v h1] at h
  split
  · rename_i hw
    simp only [hw, if_true] at h
    unfold Oper.wp at *
    rw [execOp_put oj hsj a oi.dst v h1] at h
    generalize (execOp a.eval oj).run P w = r at *
    cases r with
    | ok n w' =>
      cases n <;> simp only [Oper.upon] at h ⊢
      case value u => rw [← Act.put_comm a v u h2]; exact h
      case skip => rw [← Act.put_comm a v undef h2]; exact h
      case defer d => rw [← Act.put_comm _ v undef h2, ← Act.put_defers]; exact h
      case enter f args =>
        refine Calls.mono h fun e w'' he => ?_
        cases e with
        | returned u => show K ((a.put oj.dst u).put oi.dst v) w''; rw [← Act.put_comm a v u h2]; exact he
        | panicked c => exact he
        | outgrown => exact he
      case row row args => exact Rows.mono h fun u w'' he => by rw [← Act.put_comm a v u h2]; exact he
    | halt x w' => cases x <;> simp only [Oper.upon] at h ⊢ <;> exact h
  · rename_i hw
    simp only [hw] at h
    rw [← Act.put_comm a v undef h2]; exact h

/-- What operation j does not look at, it is calm without. -/
theorem Calm.put {o : Oper} {v : Value} {a : Act} (hs : ∀ cs b, o.op ≠ .select cs b) (hy : Calm P ops C o v a) {d : Option Tmp} (h : ∀ t, d = some t → t ∉ o.looksAt ops) (ds : List Deferred) (u : Value) :
    Calm P ops C o v (({ a with defers := ds } : Act).put d u) :=
  hy.of_same ((execOp_put o hs { a with defers := ds } d u h).trans rfl) ((wanted_put o { a with defers := ds } d u h).trans rfl)
theorem Calm.unput {o : Oper} {v : Value} {a : Act} (hs : ∀ cs b, o.op ≠ .select cs b) {d : Option Tmp} (h : ∀ t, d = some t → t ∉ o.looksAt ops) {ds : List Deferred} {u : Value}
    (hy : Calm P ops C o v (({ a with defers := ds } : Act).put d u)) : Calm P ops C o v a :=
  hy.of_same ((execOp_put o hs { a with defers := ds } d u h).trans rfl).symm ((wanted_put o { a with defers := ds } d u h).trans rfl).symm

/-! The plan of a region: L: the operations that are followed as they stand; D: those that are calm in every world; the others are calm in the class C, which holds till operation m. -/
structure Plan where
  L : List Nat
  D : List Nat
  m : Nat
def Plan.cls (p : Plan) (C : World → Prop) (i : Nat) : World → Prop := if p.D.contains i then fun _ => True else C
def stepC (P : Program) (ops : Array Oper) (p : Plan) (C : World → Prop) (i : Nat) (K : Act → World → Prop) (a : Act) (w : World) : Prop :=
  match ops[i]? with
  | none => K a w
  | some o => if p.L.contains i then loudOp P ops o K a w else ∃ v, Calm P ops (p.cls C i) o v a ∧ K (a.put o.dst v) w
theorem stepC_mono {p : Plan} {i : Nat} {K K' : Act → World → Prop} {a : Act} {w : World} (h : ∀ a w, K a w → K' a w) (hh : stepC P ops p C i K a w) : stepC P ops p C i K' a w := by
  unfold stepC at *
  split
  · simp_all
  · rename_i o ho
    simp only [ho] at hh
    split
    · rename_i hl; simp only [hl, if_true] at hh; exact loudOp_mono h hh
    · rename_i hl; simp only [hl] at hh; obtain ⟨v, h1, h2⟩ := hh; exact ⟨v, h1, h _ _ h2⟩

def wpAnyC (P : Program) (md : Region.Mode) (ops : Array Oper) (p : Plan) (C : World → Prop) (Q : Act → World → Prop) : Nat → Array Bool → Act → World → Prop
  | 0, listed, a, w => (listed.getD p.m false = false → C w) ∧ Region.ready md ops listed = [] ∧ Q a w
  | fuel + 1, listed, a, w => (listed.getD p.m false = false → C w) ∧ (Region.ready md ops listed = [] → Q a w) ∧
    ∀ i ∈ Region.ready md ops listed, stepC P ops p C i (wpAnyC P md ops p C Q fuel (listed.setIfInBounds i true)) a w

/-- In every state what is not loud and not calm everywhere comes before m. -/
def Plan.before (p : Plan) (md : Region.Mode) (ops : Array Oper) : Prop := ∀ i, i ∉ p.L → i ∉ p.D → i < ops.size → (ops.size ≤ p.m ∨ (i ≠ p.m ∧ Dep md ops i p.m))

theorem cls_holds {p : Plan} {listed : Array Bool} {i : Nat} {w : World} (hp : p.before md ops) (hc : Closed md ops listed) (hsz : listed.size = ops.size) (hl : i ∉ p.L) (hi : i < ops.size)
    (hun : listed.getD i false = false) (h : listed.getD p.m false = false → C w) : p.cls C i w := by
  unfold Plan.cls
  split
  · trivial
  · rename_i hd
    refine h ?_
    rcases hp i hl (by simpa using hd) hi with h1 | ⟨_, h1⟩
    · simp [Array.getElem?_eq_none (by omega : listed.size ≤ p.m)]
    · exact (hc.dep hun h1).1

theorem unl {listed : Array Bool} {i : Nat} (h : listed.getD i true = false) : listed.getD i false = false := by
  rcases Nat.lt_or_ge i listed.size with h' | h'
  · simp [h'] at h ⊢; exact h
  · simp [Array.getElem?_eq_none h'] at h

variable {Q : Act → World → Prop} {p : Plan}
theorem wpAnyC_C {fuel : Nat} {listed : Array Bool} {a : Act} {w : World} (h : wpAnyC P md ops p C Q fuel listed a w) : listed.getD p.m false = false → C w := by
  cases fuel with
  | zero => exact h.1
  | succ f => exact h.1

/-- A calm operation may be taken first. -/
theorem wpAnyC_first (hsel : ∀ (j : Nat) (o : Oper) cs b, ops[j]? = some o → o.op ≠ .select cs b) (hp : p.before md ops) {i : Nat} {oi : Oper} {v : Value} (hi : ops[i]? = some oi) (hiL : i ∉ p.L) :
    ∀ (fuel : Nat) (listed : Array Bool) (a : Act) (w : World), Closed md ops listed → listed.size = ops.size →
      (∀ j oj, ops[j]? = some oj → j ≠ i → listed.getD j true = false → (∀ e ∈ oj.after, Region.binds md e = true → e.on ≠ i) → oi.apart ops oj = true) →
      i ∈ Region.ready md ops listed → Calm P ops (p.cls C i) oi v a → (listed.getD p.m false = false → C w) → i ≠ p.m →
      wpAnyC P md ops p C Q fuel (listed.setIfInBounds i true) (a.put oi.dst v) w → wpAnyC P md ops p C Q (fuel + 1) listed a w := by
  have hsi := fun cs b => hsel i oi cs b hi
  have hilt : i < ops.size := (Array.getElem?_eq_some_iff.1 hi).1
  intro fuel
  induction fuel with
  | zero =>
    intro listed a w hcl hsz _ hr hy hC him H
    refine ⟨hC, fun h => (by rw [h] at hr; cases hr), fun j hj => ?_⟩
    by_cases hji : j = i
    · subst hji
      unfold stepC
      simp only [hi, show p.L.contains j = false by simpa using hiL, Bool.false_eq_true, if_false]
      exact ⟨v, hy, H⟩
    · have := ready_mono hj hji
      rw [H.2.1] at this
      cases this
  | succ fuel ih =>
    intro listed a w hcl hsz hfree hr hy hC him H
    refine ⟨hC, fun h => (by rw [h] at hr; cases hr), fun j hj => ?_⟩
    by_cases hji : j = i
    · subst hji
      unfold stepC
      simp only [hi, show p.L.contains j = false by simpa using hiL, Bool.false_eq_true, if_false]
      exact ⟨v, hy, H⟩
    · have h1 := H.2.2 j (ready_mono hj hji)
      obtain ⟨hjun, oj, hoj, hall⟩ := mem_ready.1 hj
      have hjlt : j < ops.size := (Array.getElem?_eq_some_iff.1 hoj).1
      have hiun : listed.getD i true = false := (mem_ready.1 hr).1
      have hnot : ∀ e ∈ oj.after, Region.binds md e = true → e.on ≠ i := fun e he hb heq => by
        have h1 := hall e he hb
        rw [heq, unl hiun] at h1; cases h1
      have hap := hfree j oj hoj hji hjun hnot
      obtain ⟨q1, q2, q3⟩ := Oper.apart_spec hap
      have hsj := fun cs b => hsel j oj cs b hoj
      have hcl' := hcl.set hj
      have hfree' : ∀ k ok, ops[k]? = some ok → k ≠ i → (listed.setIfInBounds j true).getD k true = false →
          (∀ e ∈ ok.after, Region.binds md e = true → e.on ≠ i) → oi.apart ops ok = true := fun k ok hk hki hun hno => by
        refine hfree k ok hk hki ?_ hno
        by_cases hjk : j = k
        · subst hjk; exact hjun
        · rw [getD_set_ne true hjk] at hun; exact hun
      have next : ∀ a' w', Calm P ops (p.cls C i) oi v a' → wpAnyC P md ops p C Q fuel ((listed.setIfInBounds i true).setIfInBounds j true) (a'.put oi.dst v) w' →
          wpAnyC P md ops p C Q (fuel + 1) (listed.setIfInBounds j true) a' w' := fun a' w' hy' h' => by
        rw [Array.setIfInBounds_comm _ _ (Ne.symm hji)] at h'
        refine ih _ a' w' hcl' (by simp [hsz]) hfree' (ready_mono hr (Ne.symm hji)) hy' ?_ him h'
        intro hm
        exact wpAnyC_C h' (by rw [getD_set_ne false him]; exact hm)
      unfold stepC at h1 ⊢
      simp only [hoj] at h1 ⊢
      split
      · rename_i hl
        simp only [hl, if_true] at h1
        have h2 := loudOp_push hap hsj h1
        have key : ∀ (K : Act → World → Prop), loudOp P ops oj K a w → loudOp P ops oj (fun a' w' => K a' w' ∧ Calm P ops (p.cls C i) oi v a') a w := fun K hK => by
          unfold loudOp at hK ⊢
          split
          · rename_i hw
            simp only [hw, if_true] at hK
            unfold Oper.wp at hK ⊢
            generalize (execOp a.eval oj).run P w = r at *
            cases r with
            | ok n w' =>
              cases n <;> simp only [Oper.upon] at hK ⊢
              case value u => exact ⟨hK, hy.put hsi q3 a.defers u⟩
              case skip => exact ⟨hK, hy.put hsi q3 a.defers _⟩
              case defer d => exact ⟨hK, hy.put hsi q3 _ _⟩
              case enter f args =>
                refine Calls.mono hK fun e w'' he => ?_
                cases e with
                | returned u => exact ⟨he, hy.put hsi q3 a.defers u⟩
                | panicked c => exact he
                | outgrown => exact he
              case row row args => exact Rows.mono hK fun u w'' he => ⟨he, hy.put hsi q3 a.defers u⟩
            | halt x w' => cases x <;> simp only [Oper.upon] at hK ⊢ <;> exact hK
          · rename_i hw
            simp only [hw] at hK
            exact ⟨hK, hy.put hsi q3 a.defers _⟩
        exact loudOp_mono (fun a' w' h3 => next a' w' h3.2 h3.1) (key _ h2)
      · rename_i hl
        simp only [hl] at h1
        obtain ⟨u, hu, hK⟩ := h1
        refine ⟨u, ?_, next _ w (hy.put hsi q3 a.defers u) ?_⟩
        · exact Calm.unput hsj (ds := a.defers) q1 hu
        · rw [← Act.put_comm a v u q2]; exact hK

/-- An operation that is followed as it stands may be taken first, if all others of its kind wait for it. -/
theorem wpAnyC_loud (hsel : ∀ (j : Nat) (o : Oper) cs b, ops[j]? = some o → o.op ≠ .select cs b) (hp : p.before md ops) (hmL : p.m < ops.size → p.m ∈ p.L) {k : Nat} {ok : Oper} (hk : ops[k]? = some ok) (hkL : k ∈ p.L) :
    ∀ (fuel : Nat) (listed : Array Bool) (a : Act) (w : World), Closed md ops listed → listed.size = ops.size →
      (∀ j oj, ops[j]? = some oj → j ≠ k → listed.getD j true = false → (∀ e ∈ oj.after, Region.binds md e = true → e.on ≠ k) → ok.apart ops oj = true) →
      (∀ j, j ∈ p.L → j ≠ k → j < ops.size → listed.getD j true = false → Dep md ops k j) →
      k ∈ Region.ready md ops listed → (listed.getD p.m false = false → C w) →
      stepC P ops p C k (wpAnyC P md ops p C Q fuel (listed.setIfInBounds k true)) a w → wpAnyC P md ops p C Q (fuel + 1) listed a w := by
  have hsk := fun cs b => hsel k ok cs b hk
  have hklt : k < ops.size := (Array.getElem?_eq_some_iff.1 hk).1
  have hkc : p.L.contains k = true := by simpa using hkL
  intro fuel
  induction fuel with
  | zero =>
    intro listed a w hcl hsz hfree hord hr hC H
    refine ⟨hC, fun h => (by rw [h] at hr; cases hr), fun i hi => ?_⟩
    by_cases hik : i = k
    · subst hik; exact H
    · exfalso
      unfold stepC at H
      simp only [hk, hkc, if_true] at H
      obtain ⟨ds, u, w', hK⟩ := loudOp_some H
      have := ready_mono hi hik
      rw [hK.2.1] at this
      cases this
  | succ f ih =>
    intro listed a w hcl hsz hfree hord hr hC H
    refine ⟨hC, fun h => (by rw [h] at hr; cases hr), fun i hi => ?_⟩
    by_cases hik : i = k
    · subst hik; exact H
    · obtain ⟨hiun, oi, hoi, hall⟩ := mem_ready.1 hi
      have hkun := (mem_ready.1 hr).1
      have hilt : i < ops.size := (Array.getElem?_eq_some_iff.1 hoi).1
      have hiL : i ∉ p.L := fun hL => (hcl.dep (unl hkun) (hord i hL hik hilt hiun)).2 hi
      have hic : p.L.contains i = false := by simpa using hiL
      have hnot : ∀ e ∈ oi.after, Region.binds md e = true → e.on ≠ k := fun e he hb heq => by
        have h1 := hall e he hb
        rw [heq, unl hkun] at h1; cases h1
      have hap := hfree i oi hoi hik hiun hnot
      obtain ⟨q1, q2, q3⟩ := Oper.apart_spec hap
      have hsi := fun cs b => hsel i oi cs b hoi
      have him : i ≠ p.m := fun e => hiL (e ▸ hmL (e ▸ hilt))
      unfold stepC at H
      simp only [hk, hkc, if_true] at H
      -- what i hands back
      obtain ⟨v, hv⟩ : ∃ v, Calm P ops (p.cls C i) oi v a := by
        obtain ⟨ds, u, w', hK⟩ := loudOp_some H
        have h2 := hK.2.2 i (ready_mono hi hik)
        unfold stepC at h2
        simp only [hoi, hic, Bool.false_eq_true, if_false] at h2
        obtain ⟨v, h3, _⟩ := h2
        exact ⟨v, Calm.unput hsi q1 h3⟩
      have hck : Closed md ops (listed.setIfInBounds k true) := hcl.set hr
      -- behind k, i is taken
      have H2 : loudOp P ops ok (fun a' w' => wpAnyC P md ops p C Q f ((listed.setIfInBounds k true).setIfInBounds i true) (a'.put oi.dst v) w') a w := by
        have key : ∀ (K : Act → World → Prop), loudOp P ops ok K a w → loudOp P ops ok (fun a' w' => K a' w' ∧ Calm P ops (p.cls C i) oi v a') a w := fun K hK => by
          unfold loudOp at hK ⊢
          split
          · rename_i hw
            simp only [hw, if_true] at hK
            unfold Oper.wp at hK ⊢
            generalize (execOp a.eval ok).run P w = r at *
            cases r with
            | ok n w' =>
              cases n <;> simp only [Oper.upon] at hK ⊢
              case value u => exact ⟨hK, hv.put hsi q1 a.defers u⟩
              case skip => exact ⟨hK, hv.put hsi q1 a.defers _⟩
              case defer d => exact ⟨hK, hv.put hsi q1 _ _⟩
              case enter f args =>
                refine Calls.mono hK fun e w'' he => ?_
                cases e with
                | returned u => exact ⟨he, hv.put hsi q1 a.defers u⟩
                | panicked c => exact he
                | outgrown => exact he
              case row row args => exact Rows.mono hK fun u w'' he => ⟨he, hv.put hsi q1 a.defers u⟩
            | halt x w' => cases x <;> simp only [Oper.upon] at hK ⊢ <;> exact hK
          · rename_i hw
            simp only [hw] at hK
            exact ⟨hK, hv.put hsi q1 a.defers _⟩
        refine loudOp_mono (fun a' w' h3 => ?_) (key _ H)
        obtain ⟨h3, hcalm⟩ := h3
        have h4 := h3.2.2 i (ready_mono hi hik)
        unfold stepC at h4
        simp only [hoi, hic, Bool.false_eq_true, if_false] at h4
        obtain ⟨v', h5, h6⟩ := h4
        have hun' : (listed.setIfInBounds k true).getD i false = false := by rw [getD_set_ne false (Ne.symm hik)]; exact unl hiun
        have : v' = v := h5.det (cls_holds hp hck (by simp [hsz]) hiL hilt hun' h3.1) hcalm
        rw [← this]; exact h6
      have H3 := loudOp_pull (K := wpAnyC P md ops p C Q f ((listed.setIfInBounds i true).setIfInBounds k true)) (w := w) (a := a) (v := v)
        (apart_symm hap) hsk (by
          rw [Array.setIfInBounds_comm _ _ hik]; exact H2)
      unfold stepC
      simp only [hoi, hic, Bool.false_eq_true, if_false]
      refine ⟨v, hv, ih _ _ w (hcl.set hi) (by simp [hsz]) ?_ ?_ (ready_mono hr (Ne.symm hik)) ?_ ?_⟩
      · intro j oj hj hjk hun hno
        refine hfree j oj hj hjk ?_ hno
        by_cases hij : i = j
        · subst hij; exact hiun
        · rw [getD_set_ne true hij] at hun; exact hun
      · intro j hjL hjk hjlt hun
        refine hord j hjL hjk hjlt ?_
        rw [getD_set_ne true (fun e => by subst e; exact hiL hjL)] at hun; exact hun
      · intro hm; rw [getD_set_ne false him] at hm; exact hC hm
      · unfold stepC
        simp only [hk, hkc, if_true]
        exact H3

/-! ### The text's order -/
/-- The walk in the text's order. -/
def wpC (P : Program) (ops : Array Oper) (p : Plan) (C : World → Prop) (Q : Act → World → Prop) : Nat → List Oper → Act → World → Prop
  | _, [], a, w => Q a w
  | k, o :: l, a, w =>
    if p.L.contains k then loudOp P ops o (fun a' w' => (k < p.m → C w') ∧ wpC P ops p C Q (k + 1) l a' w') a w
    else ∃ v, Calm P ops (p.cls C k) o v a ∧ (k < p.m → C w) ∧ wpC P ops p C Q (k + 1) l (a.put o.dst v) w

def Plan.okB (p : Plan) (md : Region.Mode) (ops : Array Oper) : Bool :=
  Region.lexB md ops && (decide (ops.size ≤ p.m) || p.L.contains p.m) &&
  (List.range ops.size).all fun i => if p.L.contains i then p.L.all fun k => decide (i ≤ k) || decide (ops.size ≤ k) || depB md ops k ops.size i
    else p.D.contains i || decide (ops.size ≤ p.m) || (i != p.m && depB md ops i ops.size p.m)

theorem wpAnyC_lex (hs : Region.noSelect ops = true) (hp : p.before md ops) (hmL : p.m < ops.size → p.m ∈ p.L)
    (hord : ∀ k j, k ∈ p.L → j ∈ p.L → k < j → j < ops.size → Dep md ops k j) : ∀ (l : List Oper) (k : Nat) (listed : Array Bool) (a : Act) (w : World), k + l.length = ops.size → (∀ j, l[j]? = ops[k + j]?) →
    Closed md ops listed → listed.size = ops.size → (∀ j, j < ops.size → listed.getD j false = decide (j < k)) →
    Region.lexFrom md ops l.length k listed = true → (k ≤ p.m → C w) → wpC P ops p C Q k l a w → wpAnyC P md ops p C Q l.length listed a w
  | [], k, listed, a, w, hk, hl, hcl, hsz, hlist, hB, hC, h => by
    simp at hk
    refine ⟨fun hm => hC ?_, by simpa [Region.lexFrom] using hB, h⟩
    rcases Nat.lt_or_ge p.m ops.size with h1 | h1
    · rw [hlist _ h1] at hm
      have := of_decide_eq_false hm
      omega
    · omega
  | o :: l, k, listed, a, w, hk, hl, hcl, hsz, hlist, hB, hC, h => by
    have h0 : ops[k]? = some o := by simpa using (hl 0).symm
    have hklt : k < ops.size := (Array.getElem?_eq_some_iff.1 h0).1
    simp only [List.length_cons] at hk
    simp only [List.length_cons, Region.lexFrom, Bool.and_eq_true] at hB
    obtain ⟨⟨hr, hf⟩, hB'⟩ := hB
    have hr' : k ∈ Region.ready md ops listed := by simpa using hr
    have hcl' := hcl.set hr'
    have hlist' : ∀ j, j < ops.size → (listed.setIfInBounds k true).getD j false = decide (j < k + 1) := fun j hj => by
      by_cases hjk : k = j
      · subst hjk; simp [hsz, hklt]
      · rw [getD_set_ne false hjk, hlist j hj]; simp; omega
    have hCw : listed.getD p.m false = false → C w := fun hm => hC (by
      rcases Nat.lt_or_ge p.m ops.size with h1 | h1
      · rw [hlist _ h1] at hm
        have := of_decide_eq_false hm
        omega
      · omega)
    have ih := fun a' w' (h' : (k < p.m → C w') ∧ wpC P ops p C Q (k + 1) l a' w') => wpAnyC_lex hs hp hmL hord l (k + 1) _ a' w' (by omega) (fun j => by have := hl (j + 1); simpa [Nat.add_assoc, Nat.add_comm 1 j] using this) hcl' (by simp [hsz]) hlist' hB' (fun hk => h'.1 hk) h'.2
    have hfree := Region.free_spec h0 hf
    by_cases hkL : k ∈ p.L
    · refine wpAnyC_loud (Region.noSelect_spec hs) hp hmL h0 hkL l.length listed a w hcl hsz hfree (fun j hjL hjk hjlt hun => hord k j hkL hjL ?_ hjlt) hr' hCw (stepC_mono ih (by unfold wpC at h; unfold stepC; simp only [h0]; simp only [show p.L.contains k = true by simpa using hkL, if_true] at h ⊢; exact h))
      have h1 := unl hun
      rw [hlist j hjlt] at h1
      have := of_decide_eq_false h1
      omega
    · have hkm : k ≠ p.m := fun e => hkL (e ▸ hmL (e ▸ hklt))
      unfold wpC at h
      simp only [show p.L.contains k = false by simpa using hkL, Bool.false_eq_true, if_false] at h
      obtain ⟨v, hy, hK⟩ := h
      exact wpAnyC_first (Region.noSelect_spec hs) hp h0 hkL l.length listed a w hcl hsz hfree hr' hy hCw hkm (ih _ _ hK)

theorem wpAny_of_C {Q' : Exit → Act → World → Prop} (hQ : ∀ a w, Q a w → Q' .normal a w) (hp : p.before md ops) : ∀ (fuel : Nat) (listed : Array Bool) (a : Act) (w : World), Closed md ops listed → listed.size = ops.size →
    wpAnyC P md ops p C Q fuel listed a w → wpAny P md ops Q' fuel listed a w
  | 0, _, _, _, _, _, h => ⟨h.2.1, hQ _ _ h.2.2⟩
  | fuel + 1, listed, a, w, hcl, hsz, h => ⟨fun h0 => hQ _ _ (h.2.1 h0), fun i hi => by
      have h1 := h.2.2 i hi
      obtain ⟨hiun, o, ho, _⟩ := mem_ready.1 hi
      have next := fun a' w' => wpAny_of_C hQ hp fuel (listed.setIfInBounds i true) a' w' (hcl.set hi) (by simp [hsz])
      unfold stepC at h1
      unfold wpOp
      simp only [ho] at h1 ⊢
      by_cases hl : p.L.contains i = true
      · simp only [hl, if_true] at h1
        unfold loudOp at h1
        split
        · rename_i hw
          simp only [hw, if_true] at h1
          refine .inl ?_
          unfold Oper.wp at *
          generalize (execOp a.eval o).run P w = r at *
          cases r with
          | ok n w' =>
            cases n <;> simp only [Oper.upon] at h1 ⊢
            case value u => exact next _ _ h1
            case skip => exact next _ _ h1
            case defer d => exact next _ _ h1
            case enter f args =>
              refine Calls.mono h1 fun e w'' he => ?_
              cases e with
              | returned u => exact next _ _ he
              | panicked c => exact he.elim
              | outgrown => obtain ⟨_, _, he⟩ := he; exact he.elim
            case row row args => exact Rows.mono h1 fun u w'' he => next _ _ he
          | halt x w' => cases x <;> simp only [Oper.upon, QF] at h1
        · rename_i hw
          simp only [hw] at h1
          exact next _ _ h1
      · simp only [hl] at h1
        obtain ⟨v, hy, hK⟩ := h1
        have hiL : i ∉ p.L := by simpa using hl
        have hilt : i < ops.size := (Array.getElem?_eq_some_iff.1 ho).1
        have hc := cls_holds hp hcl hsz hiL hilt (unl hiun) h.1
        rcases hy with ⟨hw, hv⟩ | ⟨hw, rfl⟩
        · simp only [hw, if_true]
          refine .inl ?_
          rcases hv w hc with hv1 | ⟨hv1, hu⟩
          · unfold Oper.wp; rw [hv1]; exact next _ _ hK
          · subst hu; unfold Oper.wp; rw [hv1]; exact next _ _ hK
        · simp only [hw, Bool.false_eq_true, if_false]; exact next _ _ hK⟩

/-- **A REGION THAT DRAWS ITS ORDER, WALKED IN THE TEXT's ORDER.** -/
theorem wp_region_text {id : Nat} {Q' : Exit → Act → World → Prop} {a : Act} {w : World} {l : List Oper} (p : Plan) (C : World → Prop) (hm : P.follows .mixedOrders = true) (hB : p.okB .any l.toArray = true)
    (hC : C w.drew) (h : wpC P l.toArray p C (fun a' w' => Q' .normal a' w') 0 l a w.drew) : (Code.region id l.toArray true).wp P Q' a w := by
  simp only [Plan.okB, Region.lexB, Bool.and_eq_true, Bool.or_eq_true, decide_eq_true_eq, List.all_eq_true, List.mem_range] at hB
  obtain ⟨⟨⟨hs, hlex⟩, hm'⟩, hall⟩ := hB
  have hmL : p.m < l.toArray.size → p.m ∈ p.L := fun h1 => by
    rcases hm' with h2 | h2
    · omega
    · simpa using h2
  have hbef : p.before .any l.toArray := fun i hiL hiD hilt => by
    have h1 := hall i hilt
    simp only [show p.L.contains i = false by simpa using hiL, show p.D.contains i = false by simpa using hiD, Bool.false_eq_true, if_false, Bool.false_or, Bool.or_eq_true, decide_eq_true_eq, Bool.and_eq_true, bne_iff_ne] at h1
    rcases h1 with h1 | h1
    · exact .inl h1
    · exact .inr ⟨h1.1, depB_spec _ _ h1.2⟩
  have hord : ∀ k j, k ∈ p.L → j ∈ p.L → k < j → j < l.toArray.size → Dep .any l.toArray k j := fun k j hk hj hkj hjlt => by
    have h1 := hall j hjlt
    simp only [show p.L.contains j = true by simpa using hj, if_true, List.all_eq_true, Bool.or_eq_true, decide_eq_true_eq] at h1
    rcases h1 k hk with (h2 | h2) | h2
    · omega
    · omega
    · exact depB_spec _ _ h2
  have hcl : Closed Region.Mode.any l.toArray (Array.replicate l.toArray.size false) := fun j o _ hl' => by
    rcases Nat.lt_or_ge j l.toArray.size with h1 | h1 <;> simp_all
  refine wp_region_any hm (wpAny_of_C (Q := fun a' w' => Q' .normal a' w') (p := p) (C := C) (fun _ _ h => h) hbef _ _ _ _ hcl (by simp) ?_)
  have := wpAnyC_lex (C := C) hs hbef hmL hord l 0 (Array.replicate l.toArray.size false) a { w with drawn := w.drawn + 1 } (by simp) (by simp) hcl (by simp)
    (fun j hj => by simp_all) (by simpa using hlex) (fun _ => hC) h
  simpa using this

/-! ### Its steps -/
def noEnter (o : Oper) : Bool := match o.op with
  | .call { callee := .builtin .len, .. } | .call { callee := .builtin .cap, .. } | .call { callee := .builtin .max, .. } | .call { callee := .builtin .min, .. } => true
  | .call _ | .go _ | .defer _ | .send .. | .recv .. | .select .. => false
  | _ => true
theorem v_run {s : Sem Value} {w w' : World} {f : FuncId} {args : Array Value} (h : (do pure (.value (← s)) : Sem Next).run P w = .ok (.enter f args) w') : False := by
  rw [Sem.run_bind] at h
  cases hs : s.run P w with
  | ok v w1 => rw [hs] at h; simp at h
  | halt x w1 => rw [hs] at h; simp at h
theorem u_run {s : Sem Unit} {w w' : World} {f : FuncId} {args : Array Value} (h : (do s; pure .skip : Sem Next).run P w = .ok (.enter f args) w') : False := by
  rw [Sem.run_bind] at h
  cases hs : s.run P w with
  | ok v w1 => rw [hs] at h; simp at h
  | halt x w1 => rw [hs] at h; simp at h
theorem noEnter_run {o : Oper} {ρ : Operand → Value} {w w' : World} {f : FuncId} {args : Array Value} (hn : noEnter o = true) : (execOp ρ o).run P w ≠ .ok (.enter f args) w' := by
  intro h
  obtain ⟨dst, op, type, pos, after, guard⟩ := o
  cases op
  case call c =>
    obtain ⟨callee, args', ts⟩ := c
    cases callee
    case builtin b =>
      cases b <;> simp [noEnter] at hn
      all_goals
        simp only [execOp, resolve, Sem.run_bind, Sem.run_pure, Result.andThen_ok, invoke, builtin] at h
        exact v_run (by rw [Sem.run_bind]; exact h)
    all_goals simp [noEnter] at hn
  all_goals first | (simp [noEnter] at hn; done) | skip
  case nilCheck x =>
    simp only [execOp] at h
    have hb : ∀ {α : Type} (s : Sem α) (g : α → Sem Next) (w : World), (∀ x w1, (g x).run P w1 ≠ .ok (.enter f args) w') → (s >>= g).run P w ≠ .ok (.enter f args) w' := fun s g w hg h => by
      rw [Sem.run_bind] at h
      cases hs : s.run P w with
      | ok v w1 => rw [hs] at h; exact hg v w1 h
      | halt x w1 => rw [hs] at h; simp at h
    have np : ∀ w, (runtimePanic (α := Next) .nilDeref).run P w ≠ .ok (.enter f args) w' := fun w => by
      unfold runtimePanic
      exact hb _ _ _ fun p w1 => by simp [goPanic, Sem.run]
    split at h
    any_goals exact np _ h
    · split at h
      · exact np _ h
      · revert h
        refine hb _ _ _ fun p w1 => hb _ _ _ fun b w2 => ?_
        split
        · exact hb _ _ _ fun _ w3 => by simp
        · simp
      · simp at h
    · simp at h
  case pick c a b =>
    simp only [execOp] at h
    rw [Sem.run_bind] at h
    cases hs : (asBool (ρ c)).run P w with
    | ok v w1 => rw [hs] at h; simp at h
    | halt x w1 => rw [hs] at h; simp at h
  all_goals simp only [execOp] at h
  all_goals first | exact v_run h | exact u_run h | (simp at h; done) | skip

theorem calm_of_quiet {o : Oper} {a : Act} {C : World → Prop} {v : Value} {w : World} (hn : noEnter o = true) (h : o.quietAt P a C w v) : calmAt P o a v w := by
  unfold Oper.quietAt at h
  unfold calmAt
  have hne := fun f args w' => noEnter_run (P := P) (ρ := a.eval) (w := w) (w' := w') (f := f) (args := args) hn
  generalize (execOp a.eval o).run P w = r at *
  cases r with
  | ok n w' =>
    cases n <;> simp only [Oper.quietUpon] at h
    case value u => obtain ⟨rfl, rfl⟩ := h; exact .inl rfl
    case skip => obtain ⟨rfl, rfl⟩ := h; exact .inr ⟨rfl, rfl⟩
    case enter f args => exact absurd rfl (hne f args w')
  | halt x w' => simp only [Oper.quietUpon] at h

/-- So many calm operations. 'd': calm in every world. -/
theorem wpC_seg {p : Plan} {Q : Act → World → Prop} {w : World} (d : Bool) (hC : C w) : ∀ (n k : Nat) (l : List Oper) (a : Act),
    ((List.range n).all fun j => !p.L.contains (k + j) && (p.D.contains (k + j) == d)) = true → (l.take n).all noEnter = true →
    wpQuiet P ops (if d then fun _ => True else C) (fun a' => wpC P ops p C Q (k + n) (l.drop n) a' w) (l.take n) a → wpC P ops p C Q k l a w
  | 0, k, l, a, _, _, h => by simpa [wpQuiet] using h
  | n + 1, k, [], a, _, _, h => by simp [wpQuiet, wpC] at h ⊢; exact h
  | n + 1, k, o :: l, a, hB, hn, h => by
    have h0 := List.all_eq_true.1 hB 0 (by simp)
    simp only [Nat.add_zero, Bool.and_eq_true, Bool.not_eq_true', beq_iff_eq] at h0
    simp only [List.take_succ_cons, List.all_cons, Bool.and_eq_true] at hn
    simp only [List.take_succ_cons, wpQuiet, List.drop_succ_cons] at h
    have hB' : ((List.range n).all fun j => !p.L.contains (k + 1 + j) && (p.D.contains (k + 1 + j) == d)) = true := by
      refine List.all_eq_true.2 fun j hj => ?_
      have := List.all_eq_true.1 hB (j + 1) (by simp at hj ⊢; omega)
      rwa [show k + (j + 1) = k + 1 + j by omega] at this
    have next := fun a' (h' : wpQuiet P ops (if d then fun _ => True else C) (fun a' => wpC P ops p C Q (k + (n + 1)) (l.drop n) a' w) (l.take n) a') =>
      wpC_seg d hC n (k + 1) l a' hB' hn.2 (by rw [show k + 1 + n = k + (n + 1) by omega]; exact h')
    have hcls : p.cls C k = (if d then fun _ => True else C) := by
      unfold Plan.cls; rw [h0.2]
    unfold wpC
    simp only [h0.1, Bool.false_eq_true, if_false]
    by_cases hw : Region.wanted o (yielded ops a.tmps) = true
    · simp only [hw, if_true] at h
      obtain ⟨v, h1, h2⟩ := h
      exact ⟨v, .inl ⟨hw, fun w' hw' => calm_of_quiet hn.1 (h1 w' (by rw [← hcls]; exact hw'))⟩, fun _ => hC, next _ h2⟩
    · simp only [hw] at h
      exact ⟨undef, .inr ⟨by simpa using hw, rfl⟩, fun _ => hC, next _ h⟩
/-- The same behind operation m: calm in every world. -/
theorem wpC_segD {p : Plan} {Q : Act → World → Prop} {w : World} : ∀ (n k : Nat) (l : List Oper) (a : Act),
    ((List.range n).all fun j => !p.L.contains (k + j) && p.D.contains (k + j) && decide (p.m ≤ k)) = true → (l.take n).all noEnter = true →
    wpQuiet P ops (fun _ => True) (fun a' => wpC P ops p C Q (k + n) (l.drop n) a' w) (l.take n) a → wpC P ops p C Q k l a w
  | 0, k, l, a, _, _, h => by simpa [wpQuiet] using h
  | n + 1, k, [], a, _, _, h => by simp [wpQuiet, wpC] at h ⊢; exact h
  | n + 1, k, o :: l, a, hB, hn, h => by
    have h0 := List.all_eq_true.1 hB 0 (by simp)
    simp only [Nat.add_zero, Bool.and_eq_true, Bool.not_eq_true', decide_eq_true_eq] at h0
    simp only [List.take_succ_cons, List.all_cons, Bool.and_eq_true] at hn
    simp only [List.take_succ_cons, wpQuiet, List.drop_succ_cons] at h
    have hB' : ((List.range n).all fun j => !p.L.contains (k + 1 + j) && p.D.contains (k + 1 + j) && decide (p.m ≤ k + 1)) = true := by
      refine List.all_eq_true.2 fun j hj => ?_
      have := List.all_eq_true.1 hB (j + 1) (by simp at hj ⊢; omega)
      rw [show k + (j + 1) = k + 1 + j by omega] at this
      simp only [Bool.and_eq_true, Bool.not_eq_true', decide_eq_true_eq] at this ⊢
      exact ⟨this.1, by omega⟩
    have next := fun a' (h' : wpQuiet P ops (fun _ => True) (fun a' => wpC P ops p C Q (k + (n + 1)) (l.drop n) a' w) (l.take n) a') =>
      wpC_segD n (k + 1) l a' hB' hn.2 (by rw [show k + 1 + n = k + (n + 1) by omega]; exact h')
    have hcls : p.cls C k = (fun _ => True) := by
      unfold Plan.cls; rw [if_pos h0.1.2]
    unfold wpC
    simp only [h0.1.1, Bool.false_eq_true, if_false]
    by_cases hw : Region.wanted o (yielded ops a.tmps) = true
    · simp only [hw, if_true] at h
      obtain ⟨v, h1, h2⟩ := h
      exact ⟨v, .inl ⟨hw, fun w' hw' => calm_of_quiet hn.1 (h1 w' trivial)⟩, fun hk => by omega, next _ h2⟩
    · simp only [hw] at h
      exact ⟨undef, .inr ⟨by simpa using hw, rfl⟩, fun hk => by omega, next _ h⟩
/-- An operation that is followed as it stands. -/
theorem wpC_loud {p : Plan} {Q : Act → World → Prop} {w : World} {k : Nat} {o : Oper} {l : List Oper} {a : Act} (hL : p.L.contains k = true) (hw : Region.wanted o (yielded ops a.tmps) = true)
    (h : ∀ K : Act → World → Prop, (∀ a' w', (k < p.m → C w') → wpC P ops p C Q (k + 1) l a' w' → K a' w') → o.wp P a w K QF) : wpC P ops p C Q k (o :: l) a w := by
  unfold wpC loudOp
  simp only [hL, hw, if_true]
  exact h _ fun a' w' h1 h2 => ⟨h1, h2⟩
/-- .. which its guard passes over. -/
theorem wpC_skip {p : Plan} {Q : Act → World → Prop} {w : World} {k : Nat} {o : Oper} {l : List Oper} {a : Act} (hL : p.L.contains k = true) (hw : Region.wanted o (yielded ops a.tmps) = false)
    (hC : k < p.m → C w) (h : wpC P ops p C Q (k + 1) l (a.put o.dst undef) w) : wpC P ops p C Q k (o :: l) a w := by
  unfold wpC loudOp
  simp only [hL, hw, if_true, Bool.false_eq_true, if_false]
  exact ⟨hC, h⟩
/-- .. whose run is known. -/
theorem wpC_value {p : Plan} {Q : Act → World → Prop} {w w' : World} {k : Nat} {o : Oper} {l : List Oper} {a : Act} {v : Value} (hL : p.L.contains k = true) (hw : Region.wanted o (yielded ops a.tmps) = true)
    (hr : (execOp a.eval o).run P w = .ok (.value v) w') (hC : k < p.m → C w') (h : wpC P ops p C Q (k + 1) l (a.put o.dst v) w') : wpC P ops p C Q k (o :: l) a w :=
  wpC_loud hL hw fun K hK => by unfold Oper.wp; rw [hr]; exact hK _ _ hC h
theorem wpC_store {p : Plan} {Q : Act → World → Prop} {w w' : World} {k : Nat} {o : Oper} {l : List Oper} {a : Act} (hL : p.L.contains k = true) (hw : Region.wanted o (yielded ops a.tmps) = true)
    (hr : (execOp a.eval o).run P w = .ok .skip w') (hC : k < p.m → C w') (h : wpC P ops p C Q (k + 1) l (a.put o.dst undef) w') : wpC P ops p C Q k (o :: l) a w :=
  wpC_loud hL hw fun K hK => by unfold Oper.wp; rw [hr]; exact hK _ _ hC h
theorem wpC_nil {p : Plan} {Q : Act → World → Prop} {w : World} {k : Nat} {a : Act} (h : Q a w) : wpC P ops p C Q k [] a w := h
/-- A class of worlds by an index of which nothing is known but the class's facts. -/
theorem classOf (F : World → Prop) {w : World} (hw : F w) : ∃ (X : Type) (f : X → World) (_ : Nonempty X), (∀ x, F (f x)) ∧ ∀ w, F w → ∃ x, w = f x :=
  ⟨{w : World // F w}, fun x => x.1, ⟨w, hw⟩, fun x => x.2, fun w h => ⟨⟨w, h⟩, rfl⟩⟩
end
end Go.Proofs.YtbjpfnafhhbmaaaDoor

/- sort.Search over a predicate that only reads. -/
namespace Go.Proofs.YtbjpfnafhhbmaaaDoor
set_option linter.unusedVariables false
set_option linter.unusedSimpArgs false
open Go.RowKit
/-- What sort.Search finds: the first place that the predicate holds at. -/
def Found (n : Nat) (pred : Nat → Bool) (w : World) (e : Ending) (w' : World) : Prop :=
  ∃ r : Nat, r ≤ n ∧ e = .returned (.int .i64 r) ∧ (∀ k, k < r → pred k = false) ∧ (∀ k, r ≤ k → k < n → pred k = true) ∧ ∃ m, w' = w.drewN m
set_option maxHeartbeats 400000 in
theorem search_any (n : Nat) (F : FuncId) (cap : Array Value) (pred : Nat → Bool) (w : World) (hn : n ≤ 4611686018427387904)
    (hcf : ∀ (w : World) (args : Array Value), (callFunc F args).run Tryd.prog w = .ok (.enter F args) w)
    (hF : ∀ i, i < n → ∀ m, Calls Tryd.prog F (#[.int .i64 i] ++ cap) (w.drewN m) fun e w' => e = .returned (.bool (pred i)) ∧ ∃ m', w' = (w.drewN m).drewN m')
    (mono : ∀ i j, i ≤ j → j < n → pred i = true → pred j = true) :
    Calls Tryd.prog 80 #[.int .i64 n, .func (.func F) #[] cap] w (Found n pred w) := by
  have HF := Lib.hid hF
  have HM := Lib.hid mono
  clear hF mono
  go_enter Tryd.func80, Tryd.ntmps80
  go_wp2_with fail
  go_loopw [5, 6, 7] (fun i j _ wr => ∃ a b : Nat, a ≤ b ∧ b ≤ n ∧ i = .int .i64 a ∧ j = .int .i64 b ∧ Hid ((∀ k, k < a → pred k = false) ∧ (∀ k, b ≤ k → k < n → pred k = true)) ∧ ∃ m, wr = w.drewN m) (fun i j _ _ => (intOf j - intOf i).toNat)
  case atStart => exact ⟨0, n, by omega, by omega, rfl, rfl, Lib.hid ⟨fun k hk => by omega, fun k h1 h2 => by omega⟩, 0, rfl⟩
  case round =>
    obtain ⟨a, b, hab, hbn, rfl, rfl, HI, m, rfl⟩ := hrel
    by_cases hlt : a < b
    · obtain ⟨h, hh⟩ : ∃ h : Nat, h = (a + b) / 2 := ⟨_, rfl⟩
      have hc := HF.out h (by omega) m
      rw [show ((h : Nat) : Int) = ((a : Int) + (b : Int)) / 2 by omega] at hc
      have HC := Lib.hid hc
      clear hc
      have HH := Lib.hid hh
      clear hh
      cases hp : pred h with
      | true =>
        rw [hp] at HC
        have HP := Lib.hid hp
        clear hp
        go_wp2_with fail
        refine HC.out.mono ?_
        rintro e w' ⟨rfl, m', rfl⟩
        go_wp2_with fail
        go_roundw
        case rel =>
          have hh := HH.out
          refine ⟨a, h, by omega, by omega, rfl, ?_, Lib.hid ⟨HI.out.1, fun k h1 h2 => HM.out h k h1 h2 HP.out⟩, m + m', by simp⟩
          rw [show ((h : Nat) : Int) = ((a : Int) + (b : Int)) / 2 by omega]
        case measure => simp [intOf]; omega
      | false =>
        rw [hp] at HC
        have HP := Lib.hid hp
        clear hp
        go_wp2_with fail
        refine HC.out.mono ?_
        rintro e w' ⟨rfl, m', rfl⟩
        go_wp2_with fail
        go_roundw
        case rel =>
          have hh := HH.out
          refine ⟨h + 1, b, by omega, by omega, ?_, rfl, Lib.hid ⟨fun k hk => ?_, HI.out.2⟩, m + m', by simp⟩
          · rw [show ((h + 1 : Nat) : Int) = ((a : Int) + (b : Int)) / 2 + 1 by omega]
          · cases hk' : pred k with
            | false => rfl
            | true =>
              have := HM.out k h (by omega) (by omega) hk'
              rw [HP.out] at this; cases this
        case measure => simp [intOf]; omega
    · have : b = a := by omega
      subst this
      go_wp2_with fail
      go_ret
      exact ⟨b, hbn, rfl, HI.out.1, HI.out.2, m, rfl⟩
end Go.Proofs.YtbjpfnafhhbmaaaDoor

/- Words that more than one layer needs: the block of a slice, slices that lie as they were, bytes appended. -/
namespace Go.Proofs.YtbjpfnafhhbmaaaDoor
set_option linter.unusedVariables false
set_option linter.unusedSimpArgs false
open Go.RowKit
def vblock : Value → Option Nat
  | .slice (some a) _ _ => some a.block
  | _ => none
theorem SliceIs.chg {w : World} {B : Nat} {e : TypeId} {v : Value} {n : Nat} {xs : List Value} (h : SliceIs w B e v n xs) {S : Nat → Prop} {w' : World} (hc : Chg S w w') (hn : ∀ k, vblock v = some k → ¬ S k) : SliceIs w' B e v n xs := by
  refine ⟨h.1, h.2.imp id ?_⟩
  rintro ⟨g, cap, cur, rfl, h2, h3, h4⟩
  exact ⟨g, cap, cur, rfl, h2, h3.keep hc (hn g rfl), h4⟩
theorem SliceIs.block_lt {w : World} {B : Nat} {e : TypeId} {v : Value} {n : Nat} {xs : List Value} (h : SliceIs w B e v n xs) {k : Nat} (hk : vblock v = some k) : B ≤ k ∧ k < w.heap.size := by
  rcases h.2 with ⟨rfl, rfl⟩ | ⟨g, cap, cur, rfl, h2, h3, h4⟩
  · cases hk
  · cases hk; exact ⟨h2, h3.lt⟩
theorem setCell_head {w : World} {r : Nat} {cs : Array Value} {E : TypeId} (h : w.heap[r]? = some (.cells cs E (0, 0))) (i : Nat) (v : Value) : (w.setCell ⟨r, i, none⟩ v).heap[r]? = some (.cells (cs.setIfInBounds i v) E (0, 0)) := by
  rw [setCell_eq_setRow w r i _ _ _ _ h]; exact heap_setRow h _
theorem SliceIs.mono {w : World} {B B' : Nat} {e : TypeId} {v : Value} {n : Nat} {xs : List Value} (h : SliceIs w B e v n xs) (hB : B' ≤ B) : SliceIs w B' e v n xs := by
  refine ⟨h.1, h.2.imp id ?_⟩
  rintro ⟨g, cap, cur, rfl, h2, h3⟩
  exact ⟨g, cap, cur, rfl, Nat.le_trans hB h2, h3⟩
theorem info_u8 : (Tryd.prog.info? 5).map (fun i => (i.zero, i.size, i.bytes)) = some (some (.int .u8 0), 1, 1) := by kernel_rfl
theorem append8 {w : World} {B n : Nat} {v : Value} {xs : List UInt8} (h : SliceIs w B 5 v n (xs.map u8v)) (hB : B ≤ w.heap.size) (x : UInt8) (hn : n + 1 ≤ 1000000000) :
    ∃ v' w', (Builtin.append_ #[87, 87] 87 #[v, .slice (some ⟨w.heap.size, 0, none⟩) 1 1]).run Tryd.prog (w.alloc (.cells #[u8v x] 5)) = .ok v' w' ∧ SliceIs w' B 5 v' (n + 1) ((xs ++ [x]).map u8v) ∧ Below B w w' := by
  obtain ⟨i0, g1, g2, g3, g4⟩ := info_parts info_u8
  have := run_append_one (P := Tryd.prog) (t := 87) (ty := 87) Tryd.underlying87 g1 g2 g3 g4 rfl h hB (u8v x) rfl (by unfold maxLen; omega) (by omega)
  rw [List.map_append]
  exact this
theorem u8v_of (n : Nat) : u8v (UInt8.ofNat n) = .int .u8 ((n : Int) % 256) := by
  simp [u8v]
/-- Append to a slice of an object's own: its row may have been written, or a new one has been made. -/
theorem run_append_own {P : Program} {w : World} {e : TypeId} {v : Value} {n : Nat} {xs : List Value} {t ty : TypeId} {i : TypeInfo} {z : Value} {bytes : Nat} (ht : P.underlying t = some (.slice e)) (hi : P.info? e = some i) (hz : i.zero = some z)
    (hsize : i.size = 1) (hby : i.bytes = bytes) (hzs : z.cells.size = 1) (h : SliceIs w 0 e v n xs)
    (a : Addr) (m c : Nat) (news : List Value) (hm : 0 < m) (hl : news.length = m) (hnews : ∀ j u, news[j]? = some u → w.cell? (a.add j) = some u) (h1 : ∀ u ∈ news, u.oneCell' = true)
    (h63 : n + m ≤ maxLen) (hbytes : (n + m) * bytes ≤ 140737488355328) :
    ∃ v' w', (Builtin.append_ #[t, t] ty #[v, .slice (some a) m c]).run P w = .ok v' w' ∧ SliceIs w' 0 e v' (n + m) (xs ++ news) ∧ Chg (fun k => vblock v = some k) w w' ∧ (vblock v' = vblock v ∨ ∃ k, vblock v' = some k ∧ w.heap.size ≤ k) := by
  have fin : ∀ (g : Option Nat) (olds : List Value) v' w', g = vblock v → olds = xs → Appended w e 1 g olds news (n + m) v' w' → SliceIs w' 0 e v' (n + m) (xs ++ news) ∧ Chg (fun k => vblock v = some k) w w' ∧ (vblock v' = vblock v ∨ ∃ k, vblock v' = some k ∧ w.heap.size ≤ k) := by
    rintro g olds v' w' rfl rfl ⟨g', cap', cur', rfl, q1, q2, q3, q4, q5, q6, q7⟩
    refine ⟨⟨by rw [List.length_append, h.1, hl], .inr ⟨g', cap', cur', rfl, Nat.zero_le _, q1, by omega, q3, q4, by rw [← q5, Nat.mul_one]⟩⟩, q7.mono fun k hk _ => hk.symm, q6.imp id fun h => ⟨g', rfl, h⟩⟩
  rcases h.2 with ⟨rfl, rfl⟩ | ⟨g, cap, cur, rfl, h2, h3, h4, h5, h6, h7⟩
  · obtain ⟨v', w', hr, hp⟩ := run_append_row_nil (P := P) w t ty e i z 1 bytes ht hi hz hsize hby hzs a m c news hm (by omega) hnews (by omega) (by simpa using hbytes)
    have hx : [] = xs := (List.eq_nil_of_length_eq_zero h.1).symm
    refine ⟨v', w', hr, fin none [] v' w' rfl hx ?_⟩
    rw [Nat.zero_add]; exact hp
  · obtain ⟨v', w', hr, hp⟩ := run_append_row (P := P) w t ty e i z 1 bytes ht hi hz hsize hby hzs g n cap cur h3 (by omega) h5 h6 a m c news (by omega) hnews h1 h63 hbytes
    exact ⟨v', w', hr, fin (some g) _ v' w' rfl (by rw [Nat.mul_one]; exact h7) hp⟩
theorem run_append_own1 {P : Program} {w : World} {e : TypeId} {v : Value} {n : Nat} {xs : List Value} {t ty : TypeId} {i : TypeInfo} {z : Value} {bytes : Nat} (ht : P.underlying t = some (.slice e)) (hi : P.info? e = some i) (hz : i.zero = some z)
    (hsize : i.size = 1) (hby : i.bytes = bytes) (hzs : z.cells.size = 1) (h : SliceIs w 0 e v n xs) (u : Value) (hu : u.oneCell' = true) (h63 : n + 1 ≤ maxLen) (hbytes : (n + 1) * bytes ≤ 140737488355328) :
    ∃ v' w', (Builtin.append_ #[t, t] ty #[v, .slice (some ⟨w.heap.size, 0, none⟩) 1 1]).run P (w.alloc (.cells #[u] e)) = .ok v' w' ∧ SliceIs w' 0 e v' (n + 1) (xs ++ [u]) ∧ Chg (fun k => vblock v = some k) w w' ∧ (vblock v' = vblock v ∨ ∃ k, vblock v' = some k ∧ w.heap.size ≤ k) := by
  have hb : Below w.heap.size w (w.alloc (.cells #[u] e)) := (Below.refl _ _).alloc (Nat.le_refl _) _
  obtain ⟨v', w', hr, h2, h3, h4⟩ := run_append_own (P := P) (ty := ty) ht hi hz hsize hby hzs (h.below hb) ⟨w.heap.size, 0, none⟩ 1 1 [u] (by omega) rfl (fun j x hx => by
    have hj : j = 0 := by have := (List.getElem?_eq_some_iff.1 hx).1; simpa using this
    subst hj
    rw [Addr.add_lit]
    refine cell_in (heap_new w _) ?_
    simpa using hx) (by simpa using hu) h63 hbytes
  exact ⟨v', w', hr, h2, (Chg.alloc (fun k => vblock v = some k) w _).trans h3 fun k hk _ => hk, h4.imp id fun ⟨k, e, hk⟩ => ⟨k, e, by simp at hk; omega⟩⟩
/-- The blocks behind a step: the old ones or new ones. -/
def Fresh (w : World) (F F' : Nat → Prop) : Prop := ∀ k, F' k → F k ∨ w.heap.size ≤ k
end Go.Proofs.YtbjpfnafhhbmaaaDoor

/- radix: bytes, alike, New, Len. -/
namespace Go.Proofs.YtbjpfnafhhbmaaaDoor
set_option linter.unusedVariables false
set_option linter.unusedSimpArgs false
open Go.RowKit
/-- The first j bytes of a number, the highest first. -/
def beB (n j : Nat) : List UInt8 := (List.range j).map fun i => UInt8.ofNat (n / 2 ^ (56 - 8 * i))
theorem beB_succ (n j : Nat) : beB n (j + 1) = beB n j ++ [UInt8.ofNat (n / 2 ^ (56 - 8 * j))] := by simp [beB, List.range_succ]
@[simp] theorem beB_length (n j : Nat) : (beB n j).length = j := by simp [beB]
def idBytes (ms seq : Nat) : List UInt8 := beB ms 8 ++ beB seq 8
theorem u8v_be (n k : Nat) : u8v (UInt8.ofNat (n / 2 ^ k)) = .int .u8 ((n : Int) / 2 ^ k % 256) := by
  rw [u8v_of]
  simp
set_option maxHeartbeats 1600000 in
set_option maxRecDepth 100000 in
theorem bytes_any (ms seq : Nat) (h1 : ms < 18446744073709551616) (h2 : seq < 18446744073709551616) (w : World) :
    Calls Tryd.prog 61 #[.agg #[.int .u64 ms, .int .u64 seq]] w fun e w' => ∃ v, e = .returned v ∧ SliceIs w' w.heap.size 5 v 16 ((idBytes ms seq).map u8v) ∧ Below w.heap.size w w' := by
  obtain ⟨w1, hw1⟩ : ∃ w1, w1 = w.alloc (.cells #[.int .u64 ms, .int .u64 seq] 24) := ⟨_, rfl⟩
  have hb1 : Below w.heap.size w w1 := by rw [hw1]; exact (Below.refl _ _).alloc (Nat.le_refl _) _
  have hq : w1.heap[w.heap.size]? = some (.cells #[.int .u64 ms, .int .u64 seq] 24 (0, 0)) := by rw [hw1]; exact heap_new _ _
  have hlt : w.heap.size < w1.heap.size := heap_lt hq
  have HW := Lib.hid hw1
  have HQ := Lib.hid hq
  have HB := Lib.hid hb1
  clear hw1 hq hb1
  go_enter Tryd.func61, Tryd.ntmps61
  go_wp2_with fail
  rw [← HW.out]
  go_loopw [2, 3] (fun l i wr => ∃ j : Nat, j ≤ 8 ∧ i = .int .i64 (56 - 8 * (j : Int)) ∧ Hid (SliceIs wr w1.heap.size 5 l j ((beB ms j).map u8v) ∧ Below w1.heap.size w1 wr)) (fun _ i _ => (intOf i + 8).toNat)
  case atStart => exact ⟨0, by omega, rfl, Lib.hid ⟨SliceIs.nil _ _ _, Below.refl _ _⟩⟩
  case round =>
    obtain ⟨j, hj, rfl, hI⟩ := hrel
    have e0 : wr.cell? ⟨w.heap.size, 0, none⟩ = some (.int .u64 ms) := by rw [hI.out.2.cell hlt]; exact cell_in HQ.out (i := 0) rfl
    by_cases hlt2 : j < 8
    · obtain ⟨v2, w2, r2, s2, b2⟩ := append8 hI.out.1 hI.out.2.size (UInt8.ofNat (ms / 2 ^ (56 - 8 * j))) (by omega)
      rw [← beB_succ] at s2
      rw [u8v_be] at r2
      have HR2 := Lib.hid r2
      have HNw := Lib.hid (And.intro s2 (hI.out.2.trans b2))
      clear s2 b2 r2 hI
      go_wp2_with (at_builtin; refine wpList_append_run rfl rfl HR2.out ?_)
      go_roundw
      case rel => exact ⟨j + 1, by omega, by go_num, HNw⟩
      case measure => simp [intOf]; omega
    · have : j = 8 := by omega
      subst this
      have HI1 := hI
      clear hI e0
      rw [show (56 : Int) - 8 * ((8 : Nat) : Int) = -8 from rfl]
      go_wp2_with fail
      go_loopw [2, 4] (fun l i wr => ∃ j : Nat, j ≤ 8 ∧ i = .int .i64 (56 - 8 * (j : Int)) ∧ Hid (SliceIs wr w1.heap.size 5 l (8 + j) ((beB ms 8 ++ beB seq j).map u8v) ∧ Below w1.heap.size w1 wr)) (fun _ i _ => (intOf i + 8).toNat)
      case atStart => exact ⟨0, by omega, rfl, by simpa [beB] using HI1⟩
      case round =>
        obtain ⟨j, hj, rfl, hI⟩ := hrel
        have e0 : wr.cell? ⟨w.heap.size, 1, none⟩ = some (.int .u64 seq) := by rw [hI.out.2.cell hlt]; exact cell_in HQ.out (i := 1) rfl
        by_cases hlt2 : j < 8
        · obtain ⟨v2, w2, r2, s2, b2⟩ := append8 hI.out.1 hI.out.2.size (UInt8.ofNat (seq / 2 ^ (56 - 8 * j))) (by omega)
          rw [List.append_assoc, ← beB_succ] at s2
          rw [u8v_be] at r2
          have HR2 := Lib.hid r2
          have HNw := Lib.hid (And.intro s2 (hI.out.2.trans b2))
          clear s2 b2 r2 hI
          go_wp2_with (at_builtin; refine wpList_append_run rfl rfl HR2.out ?_)
          go_roundw
          case rel => exact ⟨j + 1, by omega, by go_num, HNw⟩
          case measure => simp [intOf]; omega
        · have : j = 8 := by omega
          subst this
          go_wp2_with fail
          go_ret
          exact ⟨_, rfl, hI.out.1.mono (by omega), HB.out.trans (hI.out.2.mono (by omega))⟩
end Go.Proofs.YtbjpfnafhhbmaaaDoor

/- radix: alike. -/
namespace Go.Proofs.YtbjpfnafhhbmaaaDoor
set_option linter.unusedVariables false
set_option linter.unusedSimpArgs false
open Go.RowKit
/-- How many bytes two rows begin alike with. -/
def alikeN : List UInt8 → List UInt8 → Nat
  | x :: a, y :: b => if x = y then alikeN a b + 1 else 0
  | _, _ => 0
theorem alikeN_eq : ∀ (a b : List UInt8) (k : Nat), k ≤ a.length → k ≤ b.length → (∀ j, j < k → a.getD j 0 = b.getD j 0) → (k = a.length ∨ k = b.length ∨ a.getD k 0 ≠ b.getD k 0) → alikeN a b = k
  | [], b, k, h1, _, _, _ => by simp at h1; simp [alikeN, h1]
  | x :: a, [], k, _, h2, _, _ => by simp at h2; simp [alikeN, h2]
  | x :: a, y :: b, 0, _, _, _, h4 => by
    have : x ≠ y := by simpa using h4
    simp [alikeN, this]
  | x :: a, y :: b, k + 1, h1, h2, h3, h4 => by
    have e : x = y := by simpa using h3 0 (by omega)
    have := alikeN_eq a b k (by simpa using h1) (by simpa using h2) (fun j hj => by simpa using h3 (j + 1) (by omega)) (by simpa using h4)
    simp [alikeN, e, this]
theorem alikeN_le : ∀ (a b : List UInt8), alikeN a b ≤ a.length ∧ alikeN a b ≤ b.length
  | [], b => by simp [alikeN]
  | x :: a, [] => by simp [alikeN]
  | x :: a, y :: b => by
    have := alikeN_le a b
    simp only [alikeN]
    split <;> simp <;> omega
theorem alikeN_take : ∀ (a b : List UInt8), a.take (alikeN a b) = b.take (alikeN a b)
  | [], b => by simp [alikeN]
  | x :: a, [] => by simp [alikeN]
  | x :: a, y :: b => by
    have := alikeN_take a b
    simp only [alikeN]
    split
    · next h => simp [h, this]
    · simp
/-- A row of bytes that is only read. -/
def BytesIn (w : World) (a : Option Addr) (xs : List UInt8) (cap : Nat) : Prop :=
  xs.length ≤ cap ∧ (xs.length = 0 ∨ ∃ b o, a = some ⟨b, o, none⟩ ∧ ∀ i, i < xs.length → w.cell? ⟨b, o + i, none⟩ = some (.int .u8 (xs.getD i 0).toNat))
set_option maxHeartbeats 800000 in
set_option maxRecDepth 100000 in
theorem alike_any {w : World} {a b : Option Addr} {xs ys : List UInt8} {ca cb : Nat} (ha : BytesIn w a xs ca) (hb : BytesIn w b ys cb) (hx : xs.length ≤ 1000000) (hy : ys.length ≤ 1000000) :
    Calls Tryd.prog 70 #[.slice a xs.length ca, .slice b ys.length cb] w fun e w' => e = .returned (.int .i64 (alikeN xs ys)) ∧ ∃ n, w' = w.drewN n := by
  have HA := Lib.hid ha
  have HB := Lib.hid hb
  have hca := ha.1
  have hcb := hb.1
  clear ha hb
  go_enter Tryd.func70, Tryd.ntmps70
  go_wp2_with fail
  go_loopw [5] (fun i wr => ∃ k : Nat, k ≤ xs.length ∧ k ≤ ys.length ∧ i = .int .i64 k ∧ (∃ m, wr = w.drewN m) ∧ Hid (∀ j, j < k → xs.getD j 0 = ys.getD j 0)) (fun i _ => xs.length - (intOf i).toNat)
  case atStart => exact ⟨0, Nat.zero_le _, Nat.zero_le _, rfl, ⟨0, rfl⟩, Lib.hid fun j h => by omega⟩
  case round =>
    obtain ⟨k, hk1, hk2, rfl, ⟨m, rfl⟩, hI⟩ := hrel
    by_cases hlt : k < xs.length ∧ k < ys.length
    · obtain ⟨b1, o1, ha, hc1⟩ := HA.out.2.resolve_left (by omega)
      obtain ⟨b2, o2, hb, hc2⟩ := HB.out.2.resolve_left (by omega)
      subst ha hb
      have e1 : (w.drewN m).cell? ⟨b1, o1 + k, none⟩ = some (.int .u8 (xs.getD k 0).toNat) := hc1 k hlt.1
      have e2 : (w.drewN m).cell? ⟨b2, o2 + k, none⟩ = some (.int .u8 (ys.getD k 0).toNat) := hc2 k hlt.2
      have HE := Lib.hid (show ((((xs.getD k 0).toNat : Nat) : Int) == (((ys.getD k 0).toNat : Nat) : Int)) = decide (xs.getD k 0 = ys.getD k 0) by
        rw [Bool.eq_iff_iff, beq_iff_eq, decide_eq_true_eq, Int.ofNat_inj, UInt8.toNat_inj])
      obtain ⟨l1, l2⟩ := hlt
      clear hc1 hc2
      have HNx : Hid (xs.getD k 0 = ys.getD k 0 → ∀ j, j < k + 1 → xs.getD j 0 = ys.getD j 0) := Lib.hid fun h j h1 => by
        by_cases hj : j = k
        · subst hj; exact h
        · exact hI.out j (by omega)
      have HEnd : Hid (xs.getD k 0 ≠ ys.getD k 0 → alikeN xs ys = k) := Lib.hid fun h => alikeN_eq xs ys k hk1 hk2 hI.out (.inr (.inr h))
      clear hI
      obtain ⟨X1, f, hX1, hf, hF⟩ := classOf (fun x => x.cell? ⟨b1, o1 + k, none⟩ = some (.int .u8 (xs.getD k 0).toNat) ∧ x.cell? ⟨b2, o2 + k, none⟩ = some (.int .u8 (ys.getD k 0).toNat)) ⟨e1, e2⟩
      have hf1 := fun x => (hf x).1
      have hf2 := fun x => (hf x).2
      have HF := Lib.hid (hF (w.drewN m).drew ⟨e1, e2⟩)
      clear hF hf
      generalize xs.getD k 0 = x at *
      generalize ys.getD k 0 = y at *
      rcases Bool.eq_false_or_eq_true (decide (x = y)) with hxy | hxy
      all_goals
        rw [hxy] at HE
        have hE := HE.out
        go_wp2_with fail
        refine wp_region_text ⟨[], [], 21⟩ (fun w' => ∃ x : X1, w' = f x) (by kernel_rfl) (by kernel_rfl) HF.out ?_
        refine wpC_seg false (HF.out) 21 0 _ _ (by rfl) (by rfl) ?_
        simp only [List.take_succ_cons, List.take_zero, List.drop_succ_cons, List.drop_zero, Bool.false_eq_true, if_false, Nat.zero_add, Nat.reduceAdd]
        repeat (go_big_quiet_step (fail))
        refine wpQuiet_nil ?_
        refine wpC_nil ?_
        clear hf1 hf2 hX1 HF
        go_wp2_with fail
        first
          | (go_roundw
             case rel => exact ⟨k + 1, by omega, by omega, by go_num, ⟨_, rfl⟩, Lib.hid (HNx.out (by simpa using hxy))⟩
             case measure => simp [intOf]; omega)
          | (go_ret
             exact ⟨ret1 (by rw [HEnd.out (by simpa using hxy)]; rfl), m + 1, rfl⟩)
    · have HEnd : Hid (alikeN xs ys = k) := Lib.hid (alikeN_eq xs ys k hk1 hk2 hI.out (by
        rcases Nat.lt_or_ge k xs.length with h | h
        · exact .inr (.inl (by omega))
        · exact .inl (by omega)))
      have e1 : decide ((k : Int) < (xs.length : Int)) = decide (k < xs.length) := by rw [decide_eq_decide]; omega
      have e2 : decide ((k : Int) < (ys.length : Int)) = decide (k < ys.length) := by rw [decide_eq_decide]; omega
      obtain ⟨X1, f, hX1, hf, hF⟩ := classOf (fun x : World => True) (w := (w.drewN m).drew) trivial
      have HF := Lib.hid (hF (w.drewN m).drew trivial)
      clear hF hf
      rcases Nat.lt_or_ge k xs.length with h | h
      · have e4 := decide_eq_true h
        have e3 := decide_eq_false (show ¬ k < ys.length from fun h2 => hlt ⟨h, h2⟩)
        clear hlt
        go_wp2_with fail
        refine wp_region_text ⟨[], [], 21⟩ (fun w' => ∃ x : X1, w' = f x) (by kernel_rfl) (by kernel_rfl) HF.out ?_
        refine wpC_seg false (HF.out) 21 0 _ _ (by rfl) (by rfl) ?_
        simp only [List.take_succ_cons, List.take_zero, List.drop_succ_cons, List.drop_zero, Bool.false_eq_true, if_false, Nat.zero_add, Nat.reduceAdd]
        repeat (go_big_quiet_step (fail))
        refine wpQuiet_nil ?_
        refine wpC_nil ?_
        clear hX1 HF
        go_wp2_with fail
        go_ret
        exact ⟨ret1 (by rw [HEnd.out]; rfl), m + 1, rfl⟩
      · have e3 := decide_eq_false (show ¬ k < xs.length by omega)
        clear hlt e2
        go_wp2_with fail
        refine wp_region_text ⟨[], [], 21⟩ (fun w' => ∃ x : X1, w' = f x) (by kernel_rfl) (by kernel_rfl) HF.out ?_
        refine wpC_seg false (HF.out) 21 0 _ _ (by rfl) (by rfl) ?_
        simp only [List.take_succ_cons, List.take_zero, List.drop_succ_cons, List.drop_zero, Bool.false_eq_true, if_false, Nat.zero_add, Nat.reduceAdd]
        repeat (go_big_quiet_step (fail))
        refine wpQuiet_nil ?_
        refine wpC_nil ?_
        clear hX1 HF
        go_wp2_with fail
        go_ret
        exact ⟨ret1 (by rw [HEnd.out]; rfl), m + 1, rfl⟩
theorem BytesIn.below {w w' : World} {a : Option Addr} {xs : List UInt8} {cap : Nat} (h : BytesIn w a xs cap) (hb : Below w.heap.size w w') : BytesIn w' a xs cap := by
  refine ⟨h.1, h.2.imp id ?_⟩
  rintro ⟨b, o, e, hc⟩
  exact ⟨b, o, e, fun i hi => (hb.cell (p := ⟨b, o + i, none⟩) (World.block_lt_of_cell? w _ (hc i hi))).trans (hc i hi)⟩
end Go.Proofs.YtbjpfnafhhbmaaaDoor

/- radix: identifiers' bytes rise as they do. -/
namespace Go.Proofs.YtbjpfnafhhbmaaaDoor
set_option linter.unusedVariables false
set_option linter.unusedSimpArgs false
/-- The number that bytes are, the highest first. -/
def valB : List UInt8 → Nat
  | [] => 0
  | x :: l => x.toNat * 256 ^ l.length + valB l
theorem valB_lt : ∀ l : List UInt8, valB l < 256 ^ l.length
  | [] => by simp [valB]
  | x :: l => by
    have h1 := valB_lt l
    have h2 := x.toNat_lt
    have h3 : (x.toNat + 1) * 256 ^ l.length ≤ 256 * 256 ^ l.length := Nat.mul_le_mul_right _ (by omega)
    rw [Nat.succ_mul] at h3
    simp only [valB, List.length_cons, Nat.pow_succ]
    omega
theorem valB_append : ∀ a b : List UInt8, valB (a ++ b) = valB a * 256 ^ b.length + valB b
  | [], b => by simp [valB]
  | x :: a, b => by
    have := valB_append a b
    simp only [List.cons_append, valB, this, List.length_append, Nat.pow_add, Nat.add_mul, Nat.mul_assoc]
    omega
theorem lt_valB : ∀ {a b : List UInt8}, a.length = b.length → (a < b ↔ valB a < valB b)
  | [], [], _ => by simp [valB]
  | [], y :: b, h => by simp at h
  | x :: a, [], h => by simp at h
  | x :: a, y :: b, h => by
    have hl : a.length = b.length := by simpa using h
    have ih := lt_valB hl
    have h1 := valB_lt a
    have h2 := valB_lt b
    rw [List.cons_lt_cons_iff, ih, UInt8.lt_iff_toNat_lt]
    simp only [valB, hl]
    rw [hl] at h1
    generalize 256 ^ b.length = P at *
    constructor
    · rintro (h | ⟨rfl, h⟩)
      · have : (x.toNat + 1) * P ≤ y.toNat * P := Nat.mul_le_mul_right _ h
        rw [Nat.succ_mul] at this
        omega
      · omega
    · intro h
      rcases Nat.lt_trichotomy x.toNat y.toNat with h3 | h3 | h3
      · exact .inl h3
      · rw [h3] at h
        exact .inr ⟨UInt8.toNat_inj.1 h3, by omega⟩
      · have : (y.toNat + 1) * P ≤ x.toNat * P := Nat.mul_le_mul_right _ h3
        rw [Nat.succ_mul] at this
        omega
theorem valB_be (n : Nat) (h : n < 18446744073709551616) : valB (beB n 8) = n := by
  simp only [beB, List.range, List.range.loop, List.map_cons, List.map_nil, valB, List.length_cons, List.length_nil, UInt8.toNat_ofNat']
  omega
theorem idBytes_length (ms seq : Nat) : (idBytes ms seq).length = 16 := by simp [idBytes]
theorem idBytes_lt {a b c d : Nat} (ha : a < 18446744073709551616) (hb : b < 18446744073709551616) (hc : c < 18446744073709551616) (hd : d < 18446744073709551616) :
    idBytes a b < idBytes c d ↔ a < c ∨ (a = c ∧ b < d) := by
  rw [lt_valB (by rw [idBytes_length, idBytes_length]), idBytes, idBytes, valB_append, valB_append, valB_be a ha, valB_be b hb, valB_be c hc, valB_be d hd, beB_length, beB_length]
  omega
theorem idBytes_inj {a b c d : Nat} (ha : a < 18446744073709551616) (hb : b < 18446744073709551616) (hc : c < 18446744073709551616) (hd : d < 18446744073709551616) (h : idBytes a b = idBytes c d) : a = c ∧ b = d := by
  have := congrArg valB h
  rw [idBytes, idBytes, valB_append, valB_append, valB_be a ha, valB_be b hb, valB_be c hc, valB_be d hd, beB_length, beB_length] at this
  omega
end Go.Proofs.YtbjpfnafhhbmaaaDoor

/- radix: trees in plain Lean. -/
namespace Go.Proofs.YtbjpfnafhhbmaaaDoor.Sad
open Go.Proofs.YtbjpfnafhhbmaaaDoor
set_option linter.unusedVariables false
set_option linter.unusedSimpArgs false
/-- A thing, as a cell, and the one that was not put. -/
abbrev VT : Type := Option Addr × Nat × Nat
abbrev vC (v : VT) : Value := .slice v.1 v.2.1 v.2.2
def zT : VT := (none, 0, 0)
/-- A node: the bytes it begins with, its thing, the nodes below. -/
inductive RT where
  | mk (begin : List UInt8) (v : VT) (kids : List RT)
namespace RT
def begin : RT → List UInt8
  | mk b _ _ => b
def v : RT → VT
  | mk _ v _ => v
def kids : RT → List RT
  | mk _ _ k => k
def first (t : RT) : UInt8 := t.begin.getD 0 0
mutual
/-- The thing of bytes. -/
def look : RT → List UInt8 → Option VT
  | mk b v k, s => if alikeN b s < b.length then none else
      if s.drop b.length = [] then some v else lookS k (s.drop b.length)
def lookS : List RT → List UInt8 → Option VT
  | [], _ => none
  | t :: l, s => if t.begin.getD 0 0 = s.getD 0 0 then look t s else lookS l s
end
mutual
/-- How many nodes. -/
def nodes : RT → Nat
  | mk _ _ k => 1 + nodesS k
def nodesS : List RT → Nat
  | [] => 0
  | t :: l => nodes t + nodesS l
end
mutual
/-- A tree of bytes of one length n: leaves have no nodes below; others two and more, by rising first bytes, and the thing 0. -/
def WF : Nat → RT → Prop
  | n, mk b v k => b.length ≤ n ∧ ((k = [] ∧ b.length = n) ∨ (2 ≤ k.length ∧ v = zT ∧ b.length < n ∧ WFS (n - b.length) k))
/-- Nodes below one: none begins with nothing; their first bytes rise. -/
def WFS : Nat → List RT → Prop
  | _, [] => True
  | n, t :: l => t.begin ≠ [] ∧ WF n t ∧ (∀ u ∈ l, t.first < u.first) ∧ WFS n l
end
theorem alike_full {b s : List UInt8} (h : ¬ alikeN b s < b.length) : s.take b.length = b := by
  have h1 := alikeN_le b s
  have h2 := alikeN_take b s
  rw [show alikeN b s = b.length by omega, List.take_length] at h2
  exact h2.symm
theorem alike_append (b s : List UInt8) : ¬ alikeN b (b ++ s) < b.length := by
  induction b with
  | nil => simp
  | cons x b ih => simp only [List.cons_append, alikeN, if_true, List.length_cons]; omega
theorem look_append (b s : List UInt8) (v : VT) (k : List RT) : look (mk b v k) (b ++ s) = if s = [] then some v else lookS k s := by
  rw [look, if_neg (alike_append b s), List.drop_left]
theorem look_none {b s : List UInt8} {v : VT} {k : List RT} (h : s.take b.length ≠ b) : look (mk b v k) s = none := by
  rw [look]
  split
  · rfl
  · next h2 => exact absurd (alike_full h2) h
theorem look_first {t : RT} {s : List UInt8} (hb : t.begin ≠ []) (hs : s.getD 0 0 ≠ t.first) : look t s = none := by
  cases t with
  | mk b v k =>
    apply look_none
    intro h
    apply hs
    simp only [first, begin] at *
    cases b with
    | nil => exact absurd rfl hb
    | cons x b =>
      cases s with
      | nil => simp at h
      | cons y s => simp at h; simp [h.1]
theorem lookS_none {l : List RT} {s : List UInt8} (h : ∀ u ∈ l, s.getD 0 0 ≠ u.first) : lookS l s = none := by
  induction l with
  | nil => rfl
  | cons t l ih =>
    rw [lookS, if_neg (fun e => h t (by simp) e.symm)]
    exact ih fun u hu => h u (by simp [hu])
mutual
/-- There is something in a tree. -/
theorem some_key : ∀ {t : RT} {n : Nat}, WF n t → ∃ s, s.length = n ∧ (look t s).isSome = true ∧ s.take t.begin.length = t.begin
  | mk b v k, n, h => by
    rw [WF] at h
    rcases h.2 with ⟨hk, hb⟩ | ⟨hk, hv, hb, hw⟩
    · refine ⟨b, hb, ?_, by simp [begin]⟩
      have := look_append b [] v k
      rw [List.append_nil] at this
      rw [this]; rfl
    · obtain ⟨s, h1, h2, h3⟩ := some_keyS hw (by omega)
      refine ⟨b ++ s, by simp; omega, ?_, by simp [begin]⟩
      rw [look_append, if_neg]
      · exact h2
      · intro e; subst e; simp at h1; omega
theorem some_keyS : ∀ {l : List RT} {n : Nat}, WFS n l → 0 < l.length → ∃ s, s.length = n ∧ (lookS l s).isSome = true ∧ ∃ t, l.head? = some t ∧ s.getD 0 0 = t.first
  | [], n, _, h => by simp at h
  | t :: l, n, h, _ => by
    rw [WFS] at h
    obtain ⟨s, h1, h2, h3⟩ := some_key h.2.1
    have hf : s.getD 0 0 = t.first := by
      rw [first, ← h3]
      have : 0 < t.begin.length := List.length_pos_iff.2 h.1
      simp [List.getD, List.getElem?_take_of_lt this]
    exact ⟨s, h1, by rw [lookS, if_pos (by rw [hf]; rfl)]; exact h2, t, rfl, hf⟩
end
end RT
end Go.Proofs.YtbjpfnafhhbmaaaDoor.Sad

/- radix: a tree is what it has. -/
namespace Go.Proofs.YtbjpfnafhhbmaaaDoor.Sad
open Go.Proofs.YtbjpfnafhhbmaaaDoor
set_option linter.unusedVariables false
set_option linter.unusedSimpArgs false
namespace RT
theorem WFS.mem : ∀ {l : List RT} {n : Nat}, WFS n l → ∀ u ∈ l, u.begin ≠ [] ∧ WF n u
  | [], _, _, u, hu => by simp at hu
  | t :: l, n, h, u, hu => by
    rw [WFS] at h
    rcases List.mem_cons.1 hu with rfl | hu
    · exact ⟨h.1, h.2.1⟩
    · exact h.2.2.2.mem u hu
theorem look_pre {t : RT} {s : List UInt8} (h : (look t s).isSome = true) : s.take t.begin.length = t.begin := by
  cases t with
  | mk b v k =>
    by_cases hs : s.take b.length = b
    · exact hs
    · rw [look_none hs] at h; simp at h
/-- Two things of a tree that parts, unlike where it parts. -/
theorem two_keys {b : List UInt8} {v : VT} {k : List RT} {n : Nat} (h : WF n (mk b v k)) (hk : k ≠ []) : ∃ s s', s.length = n ∧ s'.length = n ∧ (look (mk b v k) s).isSome = true ∧ (look (mk b v k) s').isSome = true ∧ s.getD b.length 0 ≠ s'.getD b.length 0 ∧ b.length < n := by
  rw [WF] at h
  rcases h.2 with ⟨h1, _⟩ | ⟨h1, _, hb, hw⟩
  · exact absurd h1 hk
  · match k, h1, hw with
    | t :: u :: l, _, hw =>
      rw [WFS] at hw
      obtain ⟨s, s1, s2, t', ht, s3⟩ := some_keyS (l := [t]) (n := n - b.length) (by rw [WFS]; exact ⟨hw.1, hw.2.1, by simp, by rw [WFS]; trivial⟩) (by simp)
      have hwu := hw.2.2.2
      have hfu := hw.2.2.1 u (by simp)
      rw [WFS] at hwu
      obtain ⟨r, r1, r2, u', hu, r3⟩ := some_keyS (l := [u]) (n := n - b.length) (by rw [WFS]; exact ⟨hwu.1, hwu.2.1, by simp, by rw [WFS]; trivial⟩) (by simp)
      cases ht; cases hu
      have hne : ∀ x : List UInt8, x.length = n - b.length → x ≠ [] := fun x hx e => by subst e; simp at hx; omega
      have hg : ∀ x : List UInt8, (b ++ x).getD b.length 0 = x.getD 0 0 := fun x => by simp [List.getD, List.getElem?_append_right]
      refine ⟨b ++ s, b ++ r, by simp; omega, by simp; omega, ?_, ?_, ?_, hb⟩
      · rw [look_append, if_neg (hne s s1), lookS, if_pos (by rw [s3]; rfl)]
        rw [lookS, if_pos (by rw [s3]; rfl)] at s2
        exact s2
      · rw [look_append, if_neg (hne r r1), lookS, if_neg (by rw [r3]; intro e; rw [first, first, e] at hfu; exact absurd hfu (by rw [first]; simp)), lookS, if_pos (by rw [r3]; rfl)]
        rw [lookS, if_pos (by rw [r3]; rfl)] at r2
        exact r2
      · rw [hg, hg, s3, r3]
        intro e; rw [e] at hfu; exact absurd hfu (by simp)
theorem begin_le {t1 t2 : RT} {n : Nat} (h1 : WF n t1) (h2 : WF n t2) (h : ∀ s, s.length = n → look t1 s = look t2 s) : t2.begin.length ≤ t1.begin.length := by
  cases t1 with
  | mk b v k =>
    by_cases hk : k = []
    · subst hk
      have hb : b.length = n := by
        rw [WF] at h1
        rcases h1.2 with h | h
        · exact h.2
        · have := h.1; simp at this
      cases t2 with
      | mk b' v' k' => rw [WF] at h2; simp only [begin]; omega
    · obtain ⟨s, s', l1, l2, e1, e2, hd, hn⟩ := two_keys h1 hk
      rw [h s l1] at e1
      rw [h s' l2] at e2
      have p1 := look_pre e1
      have p2 := look_pre e2
      show t2.begin.length ≤ b.length
      apply Decidable.byContradiction
      intro hc
      apply hd
      have hlt : b.length < t2.begin.length := by omega
      have := congrArg (fun x => x.getD b.length 0) (p1.trans p2.symm)
      simp only [List.getD, List.getElem?_take_of_lt hlt] at this
      exact this
mutual
theorem canon : ∀ {t1 t2 : RT} {n : Nat}, WF n t1 → WF n t2 → (∀ s, s.length = n → look t1 s = look t2 s) → t1 = t2
  | mk b v k, mk b' v' k', n, h1, h2, h => by
    have hb : b = b' := by
      have q1 := begin_le h1 h2 h
      have q2 := begin_le h2 h1 fun s hs => (h s hs).symm
      obtain ⟨s, l1, e1, p1⟩ := some_key h1
      rw [h s l1] at e1
      have p2 := look_pre e1
      simp only [begin] at *
      rw [← p1, ← p2, show b.length = b'.length by omega]
    subst hb
    have h1' := h1
    have h2' := h2
    rw [WF] at h1 h2
    rcases h1.2 with ⟨rfl, e1⟩ | ⟨k1, rfl, e1, w1⟩
    · rcases h2.2 with ⟨rfl, e2⟩ | ⟨k2, rfl, e2, w2⟩
      · have := h b e1
        have a1 := look_append b [] v []
        have a2 := look_append b [] v' []
        rw [List.append_nil] at a1 a2
        rw [a1, a2] at this
        simpa using this
      · omega
    · rcases h2.2 with ⟨rfl, e2⟩ | ⟨k2, rfl, e2, w2⟩
      · omega
      · have := canonS w1 w2 fun s hs => by
          have := h (b ++ s) (by simp; omega)
          rw [look_append, look_append] at this
          have hne : s ≠ [] := fun e => by subst e; simp at hs; omega
          rw [if_neg hne, if_neg hne] at this
          exact this
        rw [this]
theorem canonS : ∀ {l1 l2 : List RT} {n : Nat}, WFS n l1 → WFS n l2 → (∀ s, s.length = n → lookS l1 s = lookS l2 s) → l1 = l2
  | [], [], n, _, _, _ => rfl
  | [], u :: m, n, _, h2, h => by
    obtain ⟨s, s1, s2, _⟩ := some_keyS h2 (by simp)
    rw [← h s s1] at s2
    simp [lookS] at s2
  | t :: l, [], n, h1, _, h => by
    obtain ⟨s, s1, s2, _⟩ := some_keyS h1 (by simp)
    rw [h s s1] at s2
    simp [lookS] at s2
  | t :: l, u :: m, n, h1, h2, h => by
    have hf : t.first = u.first := by
      obtain ⟨s, s1, s2, t', ht, s3⟩ := some_keyS h1 (by simp)
      obtain ⟨r, r1, r2, u', hu, r3⟩ := some_keyS h2 (by simp)
      cases ht; cases hu
      rw [h s s1] at s2
      rw [← h r r1] at r2
      rw [WFS] at h1 h2
      apply Decidable.byContradiction
      intro hne
      have hne2 : t.first.toNat ≠ u.first.toNat := fun e => hne (UInt8.toNat_inj.1 e)
      rcases Nat.lt_or_gt_of_ne hne2 with hlt | hlt
      · rw [lookS_none] at s2
        · simp at s2
        · intro x hx e
          rw [s3] at e
          rcases List.mem_cons.1 hx with rfl | hx
          · exact hne e
          · have := h2.2.2.1 x hx
            rw [UInt8.lt_iff_toNat_lt, ← e] at this
            omega
      · rw [lookS_none] at r2
        · simp at r2
        · intro x hx e
          rw [r3] at e
          rcases List.mem_cons.1 hx with rfl | hx
          · exact hne e.symm
          · have := h1.2.2.1 x hx
            rw [UInt8.lt_iff_toNat_lt, ← e] at this
            omega
    rw [WFS] at h1 h2
    have e1 : t = u := canon h1.2.1 h2.2.1 fun s hs => by
      by_cases hc : s.getD 0 0 = t.first
      · have := h s hs
        rw [lookS, lookS, if_pos (by rw [hc]; rfl), if_pos (by rw [hc, hf]; rfl)] at this
        exact this
      · rw [look_first h1.1 hc, look_first h2.1 (by rw [← hf]; exact hc)]
    have e2 : l = m := canonS h1.2.2.2 h2.2.2.2 fun s hs => by
      by_cases hc : s.getD 0 0 = t.first
      · rw [lookS_none fun x hx e => ?_, lookS_none fun x hx e => ?_]
        · have := h2.2.2.1 x hx
          rw [UInt8.lt_iff_toNat_lt, ← e, hc, hf] at this
          omega
        · have := h1.2.2.1 x hx
          rw [UInt8.lt_iff_toNat_lt, ← e, hc] at this
          omega
      · have := h s hs
        rw [lookS, lookS, if_neg (fun e => hc e.symm), if_neg (fun e => hc (by rw [hf]; exact e.symm))] at this
        exact this
    rw [e1, e2]
end
end RT
end Go.Proofs.YtbjpfnafhhbmaaaDoor.Sad

/- radix: putting into a tree, in plain Lean. -/
namespace Go.Proofs.YtbjpfnafhhbmaaaDoor.Sad
open Go.Proofs.YtbjpfnafhhbmaaaDoor
set_option linter.unusedVariables false
set_option linter.unusedSimpArgs false
namespace RT
/-- A node among nodes, in its place. -/
def addK (l : List RT) (y : RT) : List RT :=
  match l with
  | [] => [y]
  | t :: l => if y.first ≤ t.first then y :: t :: l else t :: addK l y
mutual
def put : RT → List UInt8 → VT → RT
  | mk b w k, s, x =>
    if alikeN b s < b.length then mk (b.take (alikeN b s)) zT (addK [mk (b.drop (alikeN b s)) w k] (mk (s.drop (alikeN b s)) x []))
    else if s.drop b.length = [] then mk b x k
    else mk b w (putS k (s.drop b.length) x)
def putS : List RT → List UInt8 → VT → List RT
  | [], s, x => [mk s x []]
  | t :: l, s, x => if t.first = s.getD 0 0 then put t s x :: l else if s.getD 0 0 < t.first then mk s x [] :: t :: l else t :: putS l s x
end
theorem look_leaf (b s : List UInt8) (v : VT) (h : s.length = b.length) : look (mk b v []) s = if s = b then some v else none := by
  by_cases he : s = b
  · subst he
    rw [if_pos rfl]
    have := look_append s [] v []
    rw [List.append_nil] at this
    rw [this]; rfl
  · rw [if_neg he, look_none]
    rw [← h, List.take_length]
    exact he
theorem alike_part {b s : List UInt8} (h : alikeN b s < b.length) (hs : alikeN b s < s.length) : b.getD (alikeN b s) 0 ≠ s.getD (alikeN b s) 0 := by
  induction b generalizing s with
  | nil => simp at h
  | cons x b ih =>
    cases s with
    | nil => simp at hs
    | cons y s =>
      simp only [alikeN] at *
      split
      · next e =>
        rw [if_pos e] at h hs
        simpa [List.getD] using ih (by simpa using h) (by simpa using hs)
      · next e => simpa [List.getD] using e
theorem look_drop (p c r : List UInt8) (w : VT) (k : List RT) : look (mk (p ++ c) w k) (p ++ r) = look (mk c w k) r := by
  by_cases h : r.take c.length = c
  · obtain ⟨q, hq⟩ : ∃ q, r = c ++ q := ⟨r.drop c.length, by have := List.take_append_drop c.length r; rw [h] at this; exact this.symm⟩
    subst hq
    rw [← List.append_assoc, look_append, look_append]
  · rw [look_none h, look_none]
    intro e
    apply h
    rw [List.length_append, List.take_append, List.take_of_length_le (by omega), Nat.add_sub_cancel_left] at e
    exact List.append_cancel_left e
theorem lookS_pair {t u : RT} (h : t.first ≠ u.first) (r : List UInt8) : lookS (addK [t] u) r = if r.getD 0 0 = u.first then look u r else if r.getD 0 0 = t.first then look t r else none := by
  have e1 : ∀ x : RT, (x.begin.getD 0 0 = r.getD 0 0) = (r.getD 0 0 = x.first) := fun x => propext ⟨fun h => h.symm, fun h => h.symm⟩
  unfold addK
  split
  · simp only [lookS, e1]
  · simp only [addK, lookS, e1]
    by_cases h1 : r.getD 0 0 = t.first
    · rw [if_pos h1, if_neg (fun h2 => h (h1.symm.trans h2)), if_pos h1]
    · rw [if_neg h1]
      by_cases h2 : r.getD 0 0 = u.first
      · rw [if_pos h2, if_pos h2]
      · rw [if_neg h2, if_neg h2, if_neg h1]
theorem head_take {b : List UInt8} {m : Nat} (h : 0 < m) : (b.take m).getD 0 0 = b.getD 0 0 := by
  simp [List.getD, List.getElem?_take_of_lt h]
theorem head_drop (b : List UInt8) (m : Nat) : (b.drop m).getD 0 0 = b.getD m 0 := by simp [List.getD]
theorem alike_pos {b s : List UInt8} (hb : b ≠ []) (hs : s ≠ []) (h : b.getD 0 0 = s.getD 0 0) : 0 < alikeN b s := by
  cases b with
  | nil => exact absurd rfl hb
  | cons x b =>
    cases s with
    | nil => exact absurd rfl hs
    | cons y s =>
      have : x = y := by simpa using h
      simp [alikeN, this]
theorem first_put {t : RT} {s : List UInt8} {x : VT} (hb : t.begin ≠ []) (hs : s ≠ []) (h : t.first = s.getD 0 0) : (put t s x).first = t.first ∧ (put t s x).begin ≠ [] := by
  cases t with
  | mk b w k =>
    have hb' : b ≠ [] := hb
    have h' : b.getD 0 0 = s.getD 0 0 := h
    show (put (mk b w k) s x).begin.getD 0 0 = b.getD 0 0 ∧ _
    rw [put]
    split
    · have hp := alike_pos hb' hs h'
      refine ⟨head_take hp, ?_⟩
      show b.take (alikeN b s) ≠ []
      intro e
      have := congrArg List.length e
      have h3 : 0 < b.length := List.length_pos_iff.2 hb'
      rw [List.length_take, List.length_nil] at this
      omega
    · split
      · exact ⟨rfl, hb'⟩
      · exact ⟨rfl, hb'⟩
end RT
end Go.Proofs.YtbjpfnafhhbmaaaDoor.Sad

/- radix: what a tree has behind a put. -/
namespace Go.Proofs.YtbjpfnafhhbmaaaDoor.Sad
open Go.Proofs.YtbjpfnafhhbmaaaDoor
set_option linter.unusedVariables false
set_option linter.unusedSimpArgs false
namespace RT
theorem cut_head {l : List UInt8} {m : Nat} (h : m < l.length) : l.drop m ≠ [] := by
  intro e
  have := congrArg List.length e
  rw [List.length_drop, List.length_nil] at this
  omega
mutual
theorem look_put : ∀ {t : RT} {n : Nat} (x : VT) {s s' : List UInt8}, WF n t → s.length = n → s'.length = n → look (put t s x) s' = if s' = s then some x else look t s'
  | mk b w k, n, x, s, s', h, hs, hs' => by
    have hn : b.length ≤ n := by rw [WF] at h; exact h.1
    rw [put]
    split
    · next hm =>
      have hms : alikeN b s < s.length := by omega
      have hpart := alike_part hm hms
      have htk := alikeN_take b s
      generalize hmm : alikeN b s = m at *
      by_cases hp : s'.take m = b.take m
      · have hs2 : s' = b.take m ++ s'.drop m := by rw [← hp, List.take_append_drop]
        have hs1 : s = b.take m ++ s.drop m := by rw [htk, List.take_append_drop]
        have hb1 : b = b.take m ++ b.drop m := (List.take_append_drop m b).symm
        have hr : s'.drop m ≠ [] := cut_head (by omega)
        have hfirst : (mk (b.drop m) w k).first ≠ (mk (s.drop m) x []).first := by
          show (b.drop m).getD 0 0 ≠ (s.drop m).getD 0 0
          rw [head_drop, head_drop]; exact hpart
        have hR : (if s' = s then some x else look (mk b w k) s') = if s'.drop m = s.drop m then some x else look (mk (b.drop m) w k) (s'.drop m) := by
          have e1 : look (mk b w k) s' = look (mk (b.drop m) w k) (s'.drop m) := by
            have := look_drop (b.take m) (b.drop m) (s'.drop m) w k
            rw [List.take_append_drop, ← hs2] at this
            exact this
          rw [e1]
          by_cases h1 : s'.drop m = s.drop m
          · rw [if_pos h1, if_pos (by rw [hs2, hs1, h1])]
          · rw [if_neg h1, if_neg (fun e => h1 (by rw [e]))]
        rw [hR]
        conv => lhs; rw [hs2]
        rw [look_append, if_neg hr, lookS_pair hfirst]
        have hl : (s'.drop m).length = (s.drop m).length := by simp; omega
        by_cases h1 : (s'.drop m).getD 0 0 = (mk (s.drop m) x []).first
        · rw [if_pos h1, look_leaf _ _ _ hl]
          by_cases h2 : s'.drop m = s.drop m
          · rw [if_pos h2, if_pos h2]
          · rw [if_neg h2, if_neg h2, look_first (t := mk (b.drop m) w k) (cut_head hm) (by rw [h1]; exact fun e => hfirst e.symm)]
        · have h3 : ¬ s'.drop m = s.drop m := fun e => h1 (by rw [e]; rfl)
          rw [if_neg h1, if_neg h3]
          by_cases h2 : (s'.drop m).getD 0 0 = (mk (b.drop m) w k).first
          · rw [if_pos h2]
          · rw [if_neg h2, look_first (t := mk (b.drop m) w k) (cut_head hm) h2]
      · rw [look_none (by rw [show (b.take m).length = m by simp; omega]; exact hp), if_neg (fun e => hp (by rw [e, htk])), look_none]
        intro e
        apply hp
        rw [← e, List.take_take, Nat.min_eq_left (by omega)]
    · next hm =>
      have hf := alike_full hm
      split
      · next hd =>
        have hl : s.length ≤ b.length := by simpa using hd
        have hsb : s = b := by rw [← hf, List.take_of_length_le hl]
        rw [WF] at h
        have hk : k = [] := by
          rcases h.2 with h | h
          · exact h.1
          · omega
        subst hk
        rw [look_leaf b s' x (by omega), look_leaf b s' w (by omega), hsb]
        split <;> rfl
      · next hd =>
        rw [WF] at h
        have hlt : b.length < s.length := by
          apply Decidable.byContradiction
          intro h2
          exact hd (List.drop_eq_nil_of_le (by omega))
        have hw : WFS (n - b.length) k := by
          rcases h.2 with h | h
          · omega
          · exact h.2.2.2
        have hs1 : s = b ++ s.drop b.length := by conv => lhs; rw [← List.take_append_drop b.length s, hf]
        by_cases hp : s'.take b.length = b
        · have hs2 : s' = b ++ s'.drop b.length := by conv => lhs; rw [← List.take_append_drop b.length s', hp]
          have hr : s'.drop b.length ≠ [] := cut_head (by omega)
          have ih := look_putS x (s' := s'.drop b.length) hw (s := s.drop b.length) (by simp; omega) (by simp; omega) (by omega)
          conv => lhs; rw [hs2]
          rw [look_append, if_neg hr, ih]
          by_cases h1 : s'.drop b.length = s.drop b.length
          · rw [if_pos h1, if_pos (by rw [hs2, h1, ← hs1])]
          · rw [if_neg h1, if_neg (fun e => h1 (by rw [e]))]
            conv => rhs; rw [hs2]
            rw [look_append, if_neg hr]
        · rw [look_none hp, look_none hp, if_neg (fun e => hp (by rw [e, hf]))]
theorem look_putS : ∀ {l : List RT} {n : Nat} (x : VT) {s s' : List UInt8}, WFS n l → s.length = n → s'.length = n → 0 < n → lookS (putS l s x) s' = if s' = s then some x else lookS l s'
  | [], n, x, s, s', _, hs, hs', h0 => by
    rw [putS]
    simp only [lookS]
    show (if s.getD 0 0 = s'.getD 0 0 then look (mk s x []) s' else none) = _
    rw [look_leaf _ _ _ (by omega)]
    by_cases h : s' = s
    · subst h; simp
    · rw [if_neg h]; split <;> rfl
  | t :: l, n, x, s, s', h, hs, hs', h0 => by
    rw [WFS] at h
    have hsn : s ≠ [] := fun e => by subst e; simp at hs; omega
    rw [putS]
    split
    · next hf =>
      have hfp := first_put (x := x) h.1 hsn hf
      have e1 : (put t s x).begin.getD 0 0 = t.first := hfp.1
      have e2 : t.begin.getD 0 0 = t.first := rfl
      simp only [lookS]
      rw [e1, e2]
      by_cases h1 : t.first = s'.getD 0 0
      · rw [if_pos h1, if_pos h1]
        exact look_put x h.2.1 hs hs'
      · rw [if_neg h1, if_neg h1, if_neg (fun e => h1 (by rw [e]; exact hf))]
    · next hf =>
      split
      · next hlt =>
        rw [lookS]
        show (if s.getD 0 0 = s'.getD 0 0 then look (mk s x []) s' else lookS (t :: l) s') = _
        by_cases h1 : s.getD 0 0 = s'.getD 0 0
        · rw [if_pos h1, look_leaf _ _ _ (by omega)]
          by_cases h2 : s' = s
          · rw [if_pos h2, if_pos h2]
          · rw [if_neg h2, if_neg h2, lookS_none]
            intro u hu e
            rw [← h1] at e
            rcases List.mem_cons.1 hu with rfl | hu
            · exact hf e.symm
            · have := h.2.2.1 u hu
              rw [UInt8.lt_iff_toNat_lt] at this hlt
              rw [e] at hlt
              omega
        · rw [if_neg h1, if_neg (fun e => h1 (by rw [e]))]
      · next hlt =>
        have ih := look_putS (l := l) x (s := s) (s' := s') h.2.2.2 hs hs' h0
        simp only [lookS]
        rw [ih]
        have e2 : t.begin.getD 0 0 = t.first := rfl
        rw [e2]
        by_cases h1 : t.first = s'.getD 0 0
        · rw [if_pos h1, if_pos h1, if_neg (fun e => hf (by rw [h1, e]))]
        · rw [if_neg h1, if_neg h1]
end
end RT
end Go.Proofs.YtbjpfnafhhbmaaaDoor.Sad

/- radix: a tree behind a put is a tree. -/
namespace Go.Proofs.YtbjpfnafhhbmaaaDoor.Sad
open Go.Proofs.YtbjpfnafhhbmaaaDoor
set_option linter.unusedVariables false
set_option linter.unusedSimpArgs false
namespace RT
theorem lt_of_not_le {a b : UInt8} (h : ¬ a ≤ b) : b < a := by
  rw [UInt8.lt_iff_toNat_lt]
  rw [UInt8.le_iff_toNat_le] at h
  omega
theorem lt_of_le_ne {a b : UInt8} (h : a ≤ b) (hn : a ≠ b) : a < b := by
  rw [UInt8.lt_iff_toNat_lt]
  rw [UInt8.le_iff_toNat_le] at h
  have : a.toNat ≠ b.toNat := fun e => hn (UInt8.toNat_inj.1 e)
  omega
theorem WFS_two {n : Nat} {t u : RT} (ht : t.begin ≠ []) (hu : u.begin ≠ []) (wt : WF n t) (wu : WF n u) (hn : t.first ≠ u.first) : WFS n (addK [t] u) ∧ (addK [t] u).length = 2 := by
  have one : ∀ {a b : RT}, a.begin ≠ [] → b.begin ≠ [] → WF n a → WF n b → a.first < b.first → WFS n [a, b] := fun ha hb wa wb h => by
    simp only [WFS]
    exact ⟨ha, wa, by simpa using h, hb, wb, by simp, trivial⟩
  unfold addK
  split
  · next h => exact ⟨one hu ht wu wt (lt_of_le_ne h fun e => hn e.symm), rfl⟩
  · next h => exact ⟨one ht hu wt wu (lt_of_not_le h), rfl⟩
theorem putS_len (x : VT) (s : List UInt8) : ∀ l : List RT, l.length ≤ (putS l s x).length
  | [] => by simp
  | t :: l => by
    rw [putS]
    split
    · simp
    · split
      · simp
      · have := putS_len x s l
        simp only [List.length_cons]; omega
theorem putS_first {n : Nat} (x : VT) {s : List UInt8} (hs : s ≠ []) : ∀ {l : List RT}, WFS n l → ∀ u ∈ putS l s x, u.first = s.getD 0 0 ∨ ∃ t ∈ l, u.first = t.first
  | [], _, u, hu => by
    rw [putS] at hu
    have : u = mk s x [] := by simpa using hu
    subst this
    exact .inl rfl
  | t :: l, h, u, hu => by
    rw [WFS] at h
    rw [putS] at hu
    split at hu
    · next hf =>
      rcases List.mem_cons.1 hu with rfl | hu
      · exact .inr ⟨t, by simp, (first_put h.1 hs hf).1⟩
      · exact .inr ⟨u, by simp [hu], rfl⟩
    · split at hu
      · rcases List.mem_cons.1 hu with rfl | hu
        · exact .inl rfl
        · exact .inr ⟨u, hu, rfl⟩
      · rcases List.mem_cons.1 hu with rfl | hu
        · exact .inr ⟨u, by simp, rfl⟩
        · rcases putS_first x hs h.2.2.2 u hu with h1 | ⟨t', h1, h2⟩
          · exact .inl h1
          · exact .inr ⟨t', by simp [h1], h2⟩
mutual
theorem WF_put : ∀ {t : RT} {n : Nat} (x : VT) {s : List UInt8}, WF n t → s.length = n → WF n (put t s x)
  | mk b w k, n, x, s, h, hs => by
    have hn : b.length ≤ n := by rw [WF] at h; exact h.1
    rw [put]
    split
    · next hm =>
      have hms : alikeN b s < s.length := by omega
      have hpart := alike_part hm hms
      generalize hmm : alikeN b s = m at *
      have hfirst : (mk (b.drop m) w k).first ≠ (mk (s.drop m) x []).first := by
        show (b.drop m).getD 0 0 ≠ (s.drop m).getD 0 0
        rw [head_drop, head_drop]; exact hpart
      have hl : (b.take m).length = m := by simp; omega
      have h2 := WFS_two (n := n - m) (t := mk (b.drop m) w k) (u := mk (s.drop m) x []) (cut_head hm) (cut_head (by omega)) (by
        rw [WF] at h ⊢
        refine ⟨by simp; omega, h.2.imp (fun h => ⟨h.1, by simp; omega⟩) fun h => ⟨h.1, h.2.1, by simp; omega, ?_⟩⟩
        rw [show n - m - (b.drop m).length = n - b.length by simp; omega]
        exact h.2.2.2) (by
        rw [WF]
        exact ⟨by simp; omega, .inl ⟨rfl, by simp; omega⟩⟩) hfirst
      rw [WF, hl]
      exact ⟨by omega, .inr ⟨by omega, rfl, by omega, h2.1⟩⟩
    · next hm =>
      have hf := alike_full hm
      rw [WF] at h
      split
      · next hd =>
        have hl : s.length ≤ b.length := by simpa using hd
        rw [WF]
        refine ⟨hn, .inl ?_⟩
        rcases h.2 with h | h
        · exact h
        · omega
      · next hd =>
        have hlt : b.length < s.length := by
          apply Decidable.byContradiction
          intro h2
          exact hd (List.drop_eq_nil_of_le (by omega))
        rcases h.2 with h | h
        · omega
        · rw [WF]
          refine ⟨hn, .inr ⟨Nat.le_trans h.1 (putS_len _ _ _), h.2.1, h.2.2.1, WF_putS x h.2.2.2 (by simp; omega) (by omega)⟩⟩
theorem WF_putS : ∀ {l : List RT} {n : Nat} (x : VT) {s : List UInt8}, WFS n l → s.length = n → 0 < n → WFS n (putS l s x)
  | [], n, x, s, _, hs, h0 => by
    rw [putS]
    simp only [WFS, WF]
    exact ⟨fun e => by have : s = [] := e; subst this; simp at hs; omega, ⟨by omega, by simp; exact hs⟩, by simp, trivial⟩
  | t :: l, n, x, s, h, hs, h0 => by
    have hsn : s ≠ [] := fun e => by subst e; simp at hs; omega
    have h' := h
    rw [WFS] at h
    rw [putS]
    split
    · next hf =>
      have hfp := first_put (x := x) h.1 hsn hf
      rw [WFS]
      exact ⟨hfp.2, WF_put x h.2.1 hs, fun u hu => by rw [hfp.1]; exact h.2.2.1 u hu, h.2.2.2⟩
    · next hf =>
      split
      · next hlt =>
        rw [WFS]
        refine ⟨hsn, by rw [WF]; exact ⟨by omega, .inl ⟨rfl, hs⟩⟩, fun u hu => ?_, h'⟩
        show s.getD 0 0 < u.first
        rcases List.mem_cons.1 hu with rfl | hu
        · exact hlt
        · have := h.2.2.1 u hu
          rw [UInt8.lt_iff_toNat_lt] at *
          omega
      · next hlt =>
        rw [WFS]
        refine ⟨h.1, h.2.1, fun u hu => ?_, WF_putS x h.2.2.2 hs h0⟩
        rcases putS_first x hsn h.2.2.2 u hu with h1 | ⟨t', h1, h2⟩
        · rw [h1]
          exact lt_of_le_ne (by
            rw [UInt8.le_iff_toNat_le]
            rw [UInt8.lt_iff_toNat_lt] at hlt
            omega) hf
        · rw [h2]; exact h.2.2.1 t' h1
end
end RT
end Go.Proofs.YtbjpfnafhhbmaaaDoor.Sad

/- radix: deleting, in plain Lean. -/
namespace Go.Proofs.YtbjpfnafhhbmaaaDoor.Sad
open Go.Proofs.YtbjpfnafhhbmaaaDoor
set_option linter.unusedVariables false
set_option linter.unusedSimpArgs false
namespace RT
/-- Where but one is left below, it joins the node above. -/
def join (b : List UInt8) (w : VT) : List RT → RT
  | [z] => mk (b ++ z.begin) z.v z.kids
  | l => mk b w l
mutual
def del : RT → List UInt8 → RT
  | mk b w k, s => join b w (delS k (s.drop b.length))
def delS : List RT → List UInt8 → List RT
  | [], _ => []
  | t :: l, s => if t.first = s.getD 0 0 then (if t.kids.isEmpty then l else del t s :: l) else t :: delS l s
end
theorem look_join (b : List UInt8) (w : VT) (l : List RT) (s : List UInt8) (hs : b.length < s.length) (hl : ∀ u ∈ l, u.begin ≠ []) : look (join b w l) s = look (mk b w l) s := by
  unfold join
  split
  · next z =>
    have hz := hl z (by simp)
    by_cases hp : s.take b.length = b
    · have hs2 : s = b ++ s.drop b.length := by conv => lhs; rw [← List.take_append_drop b.length s, hp]
      rw [hs2, look_drop, look_append, if_neg (cut_head hs)]
      have e : mk z.begin z.v z.kids = z := by cases z; rfl
      rw [e, lookS]
      by_cases h1 : z.begin.getD 0 0 = (s.drop b.length).getD 0 0
      · rw [if_pos h1]
      · rw [if_neg h1, look_first hz (fun e => h1 e.symm), lookS]
    · rw [look_none hp, look_none]
      intro e
      apply hp
      have := congrArg (List.take b.length) e
      rw [List.take_take, List.length_append, Nat.min_eq_left (by omega), List.take_left' rfl] at this
      exact this
  · rfl
theorem first_join {b : List UInt8} {w : VT} {l : List RT} (hb : b ≠ []) : (join b w l).first = b.getD 0 0 ∧ (join b w l).begin ≠ [] := by
  unfold join
  split
  · next z =>
    cases b with
    | nil => exact absurd rfl hb
    | cons x b => exact ⟨rfl, by simp [begin]⟩
  · exact ⟨rfl, hb⟩
theorem first_del {t : RT} {s : List UInt8} (hb : t.begin ≠ []) : (del t s).first = t.first ∧ (del t s).begin ≠ [] := by
  cases t with
  | mk b w k => rw [del]; exact first_join hb
theorem delS_mem {s : List UInt8} : ∀ {l : List RT} {n : Nat}, WFS n l → ∀ u ∈ delS l s, u.begin ≠ [] ∧ ∃ t ∈ l, u.first = t.first
  | [], _, _, u, hu => by rw [delS] at hu; simp at hu
  | t :: l, n, h, u, hu => by
    have hm := h.mem
    rw [WFS] at h
    rw [delS] at hu
    split at hu
    · split at hu
      · exact ⟨(hm u (by simp [hu])).1, u, by simp [hu], rfl⟩
      · rcases List.mem_cons.1 hu with rfl | hu
        · exact ⟨(first_del h.1).2, t, by simp, (first_del h.1).1⟩
        · exact ⟨(hm u (by simp [hu])).1, u, by simp [hu], rfl⟩
    · rcases List.mem_cons.1 hu with rfl | hu
      · exact ⟨h.1, u, by simp, rfl⟩
      · obtain ⟨h1, t', h2, h3⟩ := delS_mem h.2.2.2 u hu
        exact ⟨h1, t', by simp [h2], h3⟩
mutual
theorem look_del : ∀ {t : RT} {n : Nat} {s s' : List UInt8}, WF n t → t.kids ≠ [] → s.length = n → s'.length = n → (look t s).isSome = true → look (del t s) s' = if s' = s then none else look t s'
  | mk b w k, n, s, s', h, hk, hs, hs', hl => by
    rw [WF] at h
    have hw : b.length < n ∧ WFS (n - b.length) k := by
      rcases h.2 with h | h
      · exact absurd h.1 hk
      · exact ⟨h.2.2.1, h.2.2.2⟩
    have hf : s.take b.length = b := look_pre hl
    have hs1 : s = b ++ s.drop b.length := by conv => lhs; rw [← List.take_append_drop b.length s, hf]
    have hr0 : s.drop b.length ≠ [] := cut_head (by omega)
    rw [hs1, look_append, if_neg hr0] at hl
    rw [del, look_join _ _ _ _ (by omega) fun u hu => (delS_mem hw.2 u hu).1]
    by_cases hp : s'.take b.length = b
    · have hs2 : s' = b ++ s'.drop b.length := by conv => lhs; rw [← List.take_append_drop b.length s', hp]
      have hr : s'.drop b.length ≠ [] := cut_head (by omega)
      have ih := look_delS (s' := s'.drop b.length) hw.2 (s := s.drop b.length) (by simp; omega) (by simp; omega) hl
      conv => lhs; rw [hs2]
      rw [look_append, if_neg hr, ih]
      by_cases h1 : s'.drop b.length = s.drop b.length
      · rw [if_pos h1, if_pos (by rw [hs2, h1, ← hs1])]
      · rw [if_neg h1, if_neg (fun e => h1 (by rw [e]))]
        conv => rhs; rw [hs2]
        rw [look_append, if_neg hr]
    · rw [look_none hp, look_none hp, if_neg (fun e => hp (by rw [e, hf]))]
theorem look_delS : ∀ {l : List RT} {n : Nat} {s s' : List UInt8}, WFS n l → s.length = n → s'.length = n → (lookS l s).isSome = true → lookS (delS l s) s' = if s' = s then none else lookS l s'
  | [], n, s, s', h, _, _, hl => by simp [lookS] at hl
  | t :: l, n, s, s', h, hs, hs', hl => by
    rw [WFS] at h
    have e2 : t.begin.getD 0 0 = t.first := rfl
    rw [delS]
    split
    · next hf =>
      rw [lookS, e2, if_pos hf] at hl
      split
      · next hk =>
        -- a leaf goes
        have hlook : ∀ r : List UInt8, r.length = n → r.getD 0 0 = t.first → lookS l r = none := fun r _ e => lookS_none fun u hu e' => by
          have := h.2.2.1 u hu
          rw [← e', e, UInt8.lt_iff_toNat_lt] at this
          omega
        simp only [lookS]
        rw [e2]
        by_cases h1 : t.first = s'.getD 0 0
        · rw [if_pos h1, hlook s' hs' h1.symm]
          cases t with
          | mk b w k =>
            have hk' : k = [] := by simpa [kids] using hk
            subst hk'
            have hb : b.length = n := by
              have := h.2.1
              rw [WF] at this
              rcases this.2 with h | h
              · exact h.2
              · have := h.1; simp at this
            rw [look_leaf b s w (by omega)] at hl
            have hsb : s = b := by
              apply Decidable.byContradiction
              intro hn
              rw [if_neg hn] at hl; simp at hl
            rw [look_leaf b s' w (by omega), hsb]
            split <;> rfl
        · rw [if_neg h1, if_neg (fun e => h1 (by rw [e]; exact hf))]
      · next hk =>
        have hk' : t.kids ≠ [] := fun e => hk (by rw [e]; rfl)
        simp only [lookS]
        rw [show (del t s).begin.getD 0 0 = t.first from (first_del h.1).1, e2]
        by_cases h1 : t.first = s'.getD 0 0
        · rw [if_pos h1, if_pos h1]
          exact look_del h.2.1 hk' hs hs' hl
        · rw [if_neg h1, if_neg h1, if_neg (fun e => h1 (by rw [e]; exact hf))]
    · next hf =>
      rw [lookS, e2, if_neg hf] at hl
      have ih := look_delS (l := l) (s := s) (s' := s') h.2.2.2 hs hs' hl
      simp only [lookS]
      rw [ih, e2]
      by_cases h1 : t.first = s'.getD 0 0
      · rw [if_pos h1, if_pos h1, if_neg (fun e => hf (by rw [h1, e]))]
      · rw [if_neg h1, if_neg h1]
end
end RT
end Go.Proofs.YtbjpfnafhhbmaaaDoor.Sad

/- radix: a tree behind a deletion is a tree. -/
namespace Go.Proofs.YtbjpfnafhhbmaaaDoor.Sad
open Go.Proofs.YtbjpfnafhhbmaaaDoor
set_option linter.unusedVariables false
set_option linter.unusedSimpArgs false
namespace RT
theorem delS_len (s : List UInt8) : ∀ l : List RT, l.length ≤ (delS l s).length + 1
  | [] => by simp
  | t :: l => by
    rw [delS]
    split
    · split
      · simp
      · simp
    · have := delS_len s l
      simp only [List.length_cons]; omega
theorem WF_join {b : List UInt8} {w : VT} {l : List RT} {n : Nat} (hb : b.length < n) (hw : w = zT) (h : WFS (n - b.length) l) (hl : 0 < l.length) : WF n (join b w l) := by
  unfold join
  split
  · next z =>
    rw [WFS] at h
    cases z with
    | mk c v k =>
      have hz := h.2.1
      rw [WF] at hz
      show WF n (mk (b ++ c) v k)
      rw [WF]
      refine ⟨by simp; omega, hz.2.imp (fun h => ⟨h.1, by simp; omega⟩) fun h => ⟨h.1, h.2.1, by simp; omega, ?_⟩⟩
      rw [show n - (b ++ c).length = n - b.length - c.length by simp; omega]
      exact h.2.2.2
  · next hne =>
    rw [WF]
    refine ⟨by omega, .inr ⟨?_, hw, hb, h⟩⟩
    match l, hne, hl with
    | [z], hne, _ => exact absurd rfl (hne z)
    | _ :: _ :: _, _, _ => simp
mutual
theorem WF_del : ∀ {t : RT} {n : Nat} {s : List UInt8}, WF n t → t.kids ≠ [] → s.length = n → (look t s).isSome = true → WF n (del t s)
  | mk b w k, n, s, h, hk, hs, hl => by
    rw [WF] at h
    have hw : 2 ≤ k.length ∧ w = zT ∧ b.length < n ∧ WFS (n - b.length) k := by
      rcases h.2 with h | h
      · exact absurd h.1 hk
      · exact h
    have hf : s.take b.length = b := look_pre hl
    have hs1 : s = b ++ s.drop b.length := by conv => lhs; rw [← List.take_append_drop b.length s, hf]
    have hr0 : s.drop b.length ≠ [] := cut_head (by omega)
    rw [hs1, look_append, if_neg hr0] at hl
    rw [del]
    have := delS_len (s.drop b.length) k
    exact WF_join hw.2.2.1 hw.2.1 (WF_delS hw.2.2.2 (by simp; omega) hl) (by omega)
theorem WF_delS : ∀ {l : List RT} {n : Nat} {s : List UInt8}, WFS n l → s.length = n → (lookS l s).isSome = true → WFS n (delS l s)
  | [], n, s, h, _, hl => by simp [lookS] at hl
  | t :: l, n, s, h, hs, hl => by
    rw [WFS] at h
    have e2 : t.begin.getD 0 0 = t.first := rfl
    rw [delS]
    split
    · next hf =>
      rw [lookS, e2, if_pos hf] at hl
      split
      · exact h.2.2.2
      · next hk =>
        have hk' : t.kids ≠ [] := fun e => hk (by rw [e]; rfl)
        have hfd := first_del (s := s) h.1
        rw [WFS]
        exact ⟨hfd.2, WF_del h.2.1 hk' hs hl, fun u hu => by rw [hfd.1]; exact h.2.2.1 u hu, h.2.2.2⟩
    · next hf =>
      rw [lookS, e2, if_neg hf] at hl
      rw [WFS]
      refine ⟨h.1, h.2.1, fun u hu => ?_, WF_delS h.2.2.2 hs hl⟩
      obtain ⟨_, t', h1, h2⟩ := delS_mem h.2.2.2 u hu
      rw [h2]; exact h.2.2.1 t' h1
end
/-- Putting what was not there and deleting it again. -/
theorem del_put {t : RT} {n : Nat} {s : List UInt8} (x : VT) (h : WF n t) (hs : s.length = n) (hn : look t s = none) (hk : (put t s x).kids ≠ []) : del (put t s x) s = t := by
  have hp := WF_put x h hs
  have hl : (look (put t s x) s).isSome = true := by rw [look_put x h hs hs, if_pos rfl]; rfl
  refine canon (WF_del hp hk hs hl) h fun s' hs' => ?_
  rw [look_del hp hk hs hs' hl, look_put x h hs hs']
  by_cases e : s' = s
  · rw [if_pos e, e, hn]
  · rw [if_neg e, if_neg e]
end RT
end Go.Proofs.YtbjpfnafhhbmaaaDoor.Sad

/- radix: the things of a tree in a row, and how many nodes it has. -/
namespace Go.Proofs.YtbjpfnafhhbmaaaDoor.Sad
open Go.Proofs.YtbjpfnafhhbmaaaDoor
set_option linter.unusedVariables false
set_option linter.unusedSimpArgs false
namespace RT
mutual
/-- All things of a tree, from left to right. -/
def items : RT → List (List UInt8 × VT)
  | mk b v k => if k.isEmpty then [(b, v)] else (itemsS k).map fun p => (b ++ p.1, p.2)
def itemsS : List RT → List (List UInt8 × VT)
  | [] => []
  | t :: l => items t ++ itemsS l
end
mutual
theorem nodes_items : ∀ {t : RT} {n : Nat}, WF n t → nodes t + 1 ≤ 2 * (items t).length ∧ (items t).length ≤ nodes t
  | mk b v k, n, h => by
    rw [WF] at h
    rw [nodes, items]
    rcases h.2 with h | h
    · obtain ⟨rfl, _⟩ := h
      simp [nodesS]
    · have := nodes_itemsS h.2.2.2
      have hk : k.isEmpty = false := by cases k with
        | nil => have := h.1; simp at this
        | cons _ _ => rfl
      rw [hk]
      simp only [Bool.false_eq_true, if_false, List.length_map]
      omega
theorem nodes_itemsS : ∀ {l : List RT} {n : Nat}, WFS n l → nodesS l + l.length ≤ 2 * (itemsS l).length ∧ (itemsS l).length ≤ nodesS l
  | [], n, h => by simp [nodesS, itemsS]
  | t :: l, n, h => by
    rw [WFS] at h
    have h1 := nodes_items h.2.1
    have h2 := nodes_itemsS h.2.2.2
    simp only [nodesS, itemsS, List.length_append, List.length_cons]
    omega
end
mutual
theorem mem_items : ∀ {t : RT} {n : Nat} (s : List UInt8) (x : VT), WF n t → ((s, x) ∈ items t ↔ s.length = n ∧ look t s = some x)
  | mk b v k, n, s, x, h => by
    rw [WF] at h
    rw [items]
    rcases h.2 with h | h
    · obtain ⟨rfl, hb⟩ := h
      simp only [List.isEmpty_nil, if_true, List.mem_singleton, Prod.mk.injEq]
      constructor
      · rintro ⟨rfl, rfl⟩
        exact ⟨hb, by rw [look_leaf _ _ _ rfl, if_pos rfl]⟩
      · rintro ⟨hs, hl⟩
        rw [look_leaf _ _ _ (by omega)] at hl
        split at hl
        · next e => exact ⟨e, by simpa using hl.symm⟩
        · cases hl
    · have hk : k.isEmpty = false := by cases k with
        | nil => have := h.1; simp at this
        | cons _ _ => rfl
      rw [hk]
      simp only [Bool.false_eq_true, if_false, List.mem_map, Prod.mk.injEq]
      constructor
      · rintro ⟨⟨r, y⟩, hm, rfl, rfl⟩
        have := (mem_itemsS r y h.2.2.2).1 hm
        refine ⟨by simp; omega, ?_⟩
        rw [look_append, if_neg (fun e => by have := this.1; simp only at e; rw [e] at this; simp at this; omega)]
        exact this.2
      · rintro ⟨hs, hl⟩
        have hf : s.take b.length = b := look_pre (t := mk b v k) (by rw [hl]; rfl)
        have hs1 : s = b ++ s.drop b.length := by conv => lhs; rw [← List.take_append_drop b.length s, hf]
        have hr0 : s.drop b.length ≠ [] := cut_head (by omega)
        rw [hs1, look_append, if_neg hr0] at hl
        exact ⟨(s.drop b.length, x), (mem_itemsS _ _ h.2.2.2).2 ⟨by simp; omega, hl⟩, hs1.symm, rfl⟩
theorem mem_itemsS : ∀ {l : List RT} {n : Nat} (s : List UInt8) (x : VT), WFS n l → ((s, x) ∈ itemsS l ↔ s.length = n ∧ lookS l s = some x)
  | [], n, s, x, h => by simp [itemsS, lookS]
  | t :: l, n, s, x, h => by
    rw [WFS] at h
    have e2 : t.begin.getD 0 0 = t.first := rfl
    rw [itemsS, List.mem_append, mem_items s x h.2.1, mem_itemsS s x h.2.2.2, lookS, e2]
    by_cases h1 : t.first = s.getD 0 0
    · rw [if_pos h1, lookS_none]
      · simp
      · intro u hu e
        have := h.2.2.1 u hu
        rw [UInt8.lt_iff_toNat_lt, ← e, h1] at this
        omega
    · rw [if_neg h1, look_first h.1 (fun e => h1 e.symm)]
      simp
end
end RT
end Go.Proofs.YtbjpfnafhhbmaaaDoor.Sad

/- radix: the things of a tree rise. -/
namespace Go.Proofs.YtbjpfnafhhbmaaaDoor.Sad
open Go.Proofs.YtbjpfnafhhbmaaaDoor
set_option linter.unusedVariables false
set_option linter.unusedSimpArgs false
namespace RT
theorem append_lt (b : List UInt8) {r r' : List UInt8} (h : r < r') : b ++ r < b ++ r' := by
  induction b with
  | nil => exact h
  | cons x b ih =>
    rw [List.cons_append, List.cons_append, List.cons_lt_cons_iff]
    exact .inr ⟨rfl, ih⟩
theorem head_lt {s s' : List UInt8} (hs : s ≠ []) (hs' : s' ≠ []) (h : s.getD 0 0 < s'.getD 0 0) : s < s' := by
  cases s with
  | nil => exact absurd rfl hs
  | cons x s =>
    cases s' with
    | nil => exact absurd rfl hs'
    | cons y s' =>
      rw [List.cons_lt_cons_iff]
      exact .inl h
theorem item_first {t : RT} {n : Nat} {p : List UInt8 × VT} (h : WF n t) (hb : t.begin ≠ []) (hp : p ∈ items t) : p.1.getD 0 0 = t.first ∧ p.1 ≠ [] := by
  have := (mem_items p.1 p.2 h).1 hp
  have hl : (look t p.1).isSome = true := by rw [this.2]; rfl
  have hf : p.1.getD 0 0 = t.first := by
    apply Decidable.byContradiction
    intro hn
    rw [look_first hb hn] at hl; simp at hl
  refine ⟨hf, fun e => ?_⟩
  have h2 := look_pre hl
  rw [e] at h2
  simp at h2
  exact hb h2
mutual
theorem items_rise : ∀ {t : RT} {n : Nat}, WF n t → (items t).Pairwise fun p q => p.1 < q.1
  | mk b v k, n, h => by
    rw [WF] at h
    rw [items]
    split
    · simp
    · rcases h.2 with h | h
      · obtain ⟨rfl, _⟩ := h
        simp [itemsS]
      · rw [List.pairwise_map]
        exact (items_riseS h.2.2.2).imp fun h => append_lt b h
theorem items_riseS : ∀ {l : List RT} {n : Nat}, WFS n l → (itemsS l).Pairwise fun p q => p.1 < q.1
  | [], n, h => by simp [itemsS]
  | t :: l, n, h => by
    have hm := h.mem
    rw [WFS] at h
    rw [itemsS, List.pairwise_append]
    refine ⟨items_rise h.2.1, items_riseS h.2.2.2, fun p hp q hq => ?_⟩
    have h1 := item_first h.2.1 h.1 hp
    have h2 : ∃ u ∈ l, q ∈ items u := by
      clear hm h h1 hp
      induction l with
      | nil => simp [itemsS] at hq
      | cons u l ih =>
        rw [itemsS, List.mem_append] at hq
        rcases hq with hq | hq
        · exact ⟨u, by simp, hq⟩
        · obtain ⟨u', h1, h2⟩ := ih hq
          exact ⟨u', by simp [h1], h2⟩
    obtain ⟨u, hu, hqu⟩ := h2
    have hwu := hm u (by simp [hu])
    have h3 := item_first hwu.2 hwu.1 hqu
    exact head_lt h1.2 h3.2 (by rw [h1.1, h3.1]; exact h.2.2.1 u hu)
end
end RT
end Go.Proofs.YtbjpfnafhhbmaaaDoor.Sad

/- radix: trees in memory; New, Len, less. -/
namespace Go.Proofs.YtbjpfnafhhbmaaaDoor.Sad
open Go.Proofs.YtbjpfnafhhbmaaaDoor
set_option linter.unusedVariables false
set_option linter.unusedSimpArgs false
open Go.RowKit
def ptrV (x : Nat) : Value := .pointer (some ⟨x, 0, none⟩)
/-- Bytes that are only read, in a block that ro has. -/
def BytesRo (w : World) (ro : Nat → Prop) (a : Option Addr) (xs : List UInt8) (cap : Nat) : Prop :=
  xs.length ≤ cap ∧ (xs.length = 0 ∨ ∃ b o, a = some ⟨b, o, none⟩ ∧ ro b ∧ b < w.heap.size ∧ ∀ i, i < xs.length → w.cell? ⟨b, o + i, none⟩ = some (.int .u8 (xs.getD i 0).toNat))
theorem BytesRo.bytes {w : World} {ro : Nat → Prop} {a : Option Addr} {xs : List UInt8} {cap : Nat} (h : BytesRo w ro a xs cap) : BytesIn w a xs cap :=
  ⟨h.1, h.2.imp id fun ⟨b, o, e, _, _, hc⟩ => ⟨b, o, e, hc⟩⟩
theorem BytesRo.chg {w w' : World} {ro : Nat → Prop} {a : Option Addr} {xs : List UInt8} {cap : Nat} (h : BytesRo w ro a xs cap) {S : Nat → Prop} (hc : Chg S w w') (hd : ∀ k, ro k → ¬ S k) : BytesRo w' ro a xs cap := by
  refine ⟨h.1, h.2.imp id ?_⟩
  rintro ⟨b, o, e, h1, h2, h3⟩
  refine ⟨b, o, e, h1, Nat.lt_of_lt_of_le h2 hc.size, fun i hi => ?_⟩
  rw [World.cell?_of_block (w := w) (hc.block b h2 (hd b h1))]
  exact h3 i hi
mutual
/-- Node x of a tree, in its own blocks, of bytes in ro. -/
def NodeAt (w : World) (ro : Nat → Prop) : RT → Nat → List Nat → Prop
  | .mk b v k, x, own => ∃ a ca kv xs rows, w.heap[x]? = some (.cells #[.slice a b.length ca, kv, vC v] 94 (0, 0)) ∧ BytesRo w ro a b ca ∧
      SliceIs w 0 91 kv k.length (xs.map ptrV) ∧ NodesAt w ro k xs rows ∧ own = x :: ((vblock kv).toList ++ rows)
def NodesAt (w : World) (ro : Nat → Prop) : List RT → List Nat → List Nat → Prop
  | [], xs, own => xs = [] ∧ own = []
  | t :: l, xs, own => ∃ x ys o1 o2, xs = x :: ys ∧ NodeAt w ro t x o1 ∧ NodesAt w ro l ys o2 ∧ own = o1 ++ o2
end
theorem mem_vblock {v : Value} {k : Nat} (h : vblock v = some k) : k ∈ (vblock v).toList := by rw [h]; simp
mutual
theorem NodeAt.chg {w w' : World} {ro S : Nat → Prop} (hc : Chg S w w') (hr : ∀ k, ro k → ¬ S k) : ∀ {t : RT} {x : Nat} {own : List Nat}, NodeAt w ro t x own → (∀ k ∈ own, ¬ S k) → NodeAt w' ro t x own
  | .mk b v k, x, own, h, hd => by
    rw [NodeAt] at h ⊢
    obtain ⟨a, ca, kv, xs, rows, h1, h2, h3, h4, rfl⟩ := h
    refine ⟨a, ca, kv, xs, rows, hc.keep h1 (hd x (by simp)), h2.chg hc hr, h3.chg hc fun g hg => hd g (by simp [mem_vblock hg]), NodesAt.chg hc hr h4 fun g hg => hd g (by simp [hg]), rfl⟩
theorem NodesAt.chg {w w' : World} {ro S : Nat → Prop} (hc : Chg S w w') (hr : ∀ k, ro k → ¬ S k) : ∀ {l : List RT} {xs own : List Nat}, NodesAt w ro l xs own → (∀ k ∈ own, ¬ S k) → NodesAt w' ro l xs own
  | [], xs, own, h, hd => by
    rw [NodesAt] at h ⊢
    exact h
  | t :: l, xs, own, h, hd => by
    rw [NodesAt] at h ⊢
    obtain ⟨x, ys, o1, o2, h1, h2, h3, rfl⟩ := h
    exact ⟨x, ys, o1, o2, h1, NodeAt.chg hc hr h2 fun g hg => hd g (by simp [hg]), NodesAt.chg hc hr h3 fun g hg => hd g (by simp [hg]), rfl⟩
end
mutual
theorem NodeAt.ro {w : World} {ro ro' : Nat → Prop} (hr : ∀ k, ro k → ro' k) : ∀ {t : RT} {x : Nat} {own : List Nat}, NodeAt w ro t x own → NodeAt w ro' t x own
  | .mk b v k, x, own, h => by
    rw [NodeAt] at h ⊢
    obtain ⟨a, ca, kv, xs, rows, h1, h2, h3, h4, h5⟩ := h
    exact ⟨a, ca, kv, xs, rows, h1, ⟨h2.1, h2.2.imp id fun ⟨g, o, e, q, r⟩ => ⟨g, o, e, hr g q, r⟩⟩, h3, NodesAt.ro hr h4, h5⟩
theorem NodesAt.ro {w : World} {ro ro' : Nat → Prop} (hr : ∀ k, ro k → ro' k) : ∀ {l : List RT} {xs own : List Nat}, NodesAt w ro l xs own → NodesAt w ro' l xs own
  | [], xs, own, h => by
    rw [NodesAt] at h ⊢
    exact h
  | t :: l, xs, own, h => by
    rw [NodesAt] at h ⊢
    obtain ⟨x, ys, o1, o2, h1, h2, h3, h4⟩ := h
    exact ⟨x, ys, o1, o2, h1, NodeAt.ro hr h2, NodesAt.ro hr h3, h4⟩
end
theorem radNew (w : World) : Calls Tryd.prog 40 #[] w fun e w' => e = .returned (ptrV w.heap.size) ∧ w' = w.alloc (.cells #[.bool true, .pointer none, .int .i64 0] 99) := by
  go_enter Tryd.func40, Tryd.ntmps40
  go_wp2_with fail
  go_ret
  exact ⟨rfl, rfl⟩
theorem radLen {w : World} {p : Nat} {v : Value} {n : Int} (h : w.heap[p]? = some (.cells #[.bool true, v, .int .i64 n] 99 (0, 0))) :
    Calls Tryd.prog 52 #[ptrV p] w fun e w' => e = .returned (.int .i64 n) ∧ w = w' := by
  have c2 := cell_in h (i := 2) rfl
  unfold ptrV
  go_enter Tryd.func52, Tryd.ntmps52
  go_wp2_with fail
  go_ret
  exact ⟨rfl, rfl⟩
end Go.Proofs.YtbjpfnafhhbmaaaDoor.Sad

/- radix: seek's test. -/
namespace Go.Proofs.YtbjpfnafhhbmaaaDoor.Sad
open Go.Proofs.YtbjpfnafhhbmaaaDoor
set_option linter.unusedVariables false
set_option linter.unusedSimpArgs false
open Go.RowKit
set_option maxHeartbeats 800000 in
set_option maxRecDepth 100000 in
theorem radSeek1 {w : World} {bx bc x g o n cap i y b p m cm : Nat} {c f : Int} (h1 : w.cell? ⟨bx, 0, none⟩ = some (ptrV x)) (h2 : w.cell? ⟨bc, 0, none⟩ = some (.int .u8 c))
    (h3 : w.cell? ⟨x, 1, none⟩ = some (.slice (some ⟨g, o, none⟩) n cap)) (hi : i < n) (hn : n ≤ 1000000) (h4 : w.cell? ⟨g, o + i, none⟩ = some (ptrV y))
    (h5 : w.cell? ⟨y, 0, none⟩ = some (.slice (some ⟨b, p, none⟩) m cm)) (hm : 0 < m) (h6 : w.cell? ⟨b, p, none⟩ = some (.int .u8 f)) :
    Calls Tryd.prog 81 #[.int .i64 i, .pointer (some ⟨bx, 0, none⟩), .pointer (some ⟨bc, 0, none⟩)] w fun e w' => e = .returned (.bool (decide (c ≤ f))) ∧ ∃ k, w' = w.drewN k := by
  unfold ptrV at *
  obtain ⟨X1, fx, hX1, hf, hF⟩ := classOf (fun q : World => q.cell? ⟨bx, 0, none⟩ = some (.pointer (some ⟨x, 0, none⟩)) ∧ q.cell? ⟨bc, 0, none⟩ = some (.int .u8 c) ∧ q.cell? ⟨x, 1, none⟩ = some (.slice (some ⟨g, o, none⟩) n cap) ∧
    q.cell? ⟨g, o + i, none⟩ = some (.pointer (some ⟨y, 0, none⟩)) ∧ q.cell? ⟨y, 0, none⟩ = some (.slice (some ⟨b, p, none⟩) m cm) ∧ q.cell? ⟨b, p, none⟩ = some (.int .u8 f)) ⟨h1, h2, h3, h4, h5, h6⟩
  have f1 := fun q => (hf q).1
  have f2 := fun q => (hf q).2.1
  have f3 := fun q => (hf q).2.2.1
  have f4 := fun q => (hf q).2.2.2.1
  have f5 := fun q => (hf q).2.2.2.2.1
  have f6 := fun q => (hf q).2.2.2.2.2
  have HF := Lib.hid (hF w.drew ⟨h1, h2, h3, h4, h5, h6⟩)
  clear hF hf h1 h2 h3 h4 h5 h6
  go_enter Tryd.func81, Tryd.ntmps81
  go_wp2_with fail
  refine wp_region_text ⟨[], [], 15⟩ (fun w' => ∃ x : X1, w' = fx x) (by kernel_rfl) (by kernel_rfl) HF.out ?_
  refine wpC_seg false (HF.out) 15 0 _ _ (by rfl) (by rfl) ?_
  simp only [List.take_succ_cons, List.take_zero, List.drop_succ_cons, List.drop_zero, Bool.false_eq_true, if_false, Nat.zero_add, Nat.reduceAdd]
  repeat (go_big_quiet_step (fail))
  refine wpQuiet_nil ?_
  refine wpC_nil ?_
  go_wp2_with fail
  go_ret
  exact ⟨rfl, 1, rfl⟩
end Go.Proofs.YtbjpfnafhhbmaaaDoor.Sad

/- radix: the nodes below one, each by its place. -/
namespace Go.Proofs.YtbjpfnafhhbmaaaDoor.Sad
open Go.Proofs.YtbjpfnafhhbmaaaDoor
set_option linter.unusedVariables false
set_option linter.unusedSimpArgs false
open Go.RowKit
theorem NodesAt.length {w : World} {ro : Nat → Prop} : ∀ {l : List RT} {xs own : List Nat}, NodesAt w ro l xs own → xs.length = l.length
  | [], xs, own, h => by rw [NodesAt] at h; simp [h.1]
  | t :: l, xs, own, h => by
    rw [NodesAt] at h
    obtain ⟨x, ys, o1, o2, rfl, _, h3, _⟩ := h
    simp [NodesAt.length h3]
theorem NodesAt.get {w : World} {ro : Nat → Prop} : ∀ {l : List RT} {xs own : List Nat}, NodesAt w ro l xs own → ∀ i (h : i < l.length), ∃ o, NodeAt w ro l[i] (xs.getD i 0) o ∧ ∀ k ∈ o, k ∈ own
  | [], xs, own, h, i, hi => by simp at hi
  | t :: l, xs, own, h, i, hi => by
    rw [NodesAt] at h
    obtain ⟨x, ys, o1, o2, rfl, h2, h3, rfl⟩ := h
    cases i with
    | zero => exact ⟨o1, by simpa using h2, fun k hk => by simp [hk]⟩
    | succ i =>
      obtain ⟨o, h4, h5⟩ := NodesAt.get h3 i (by simpa using hi)
      exact ⟨o, by simpa using h4, fun k hk => by simp [h5 k hk]⟩
/-- What seek reads of the node at place i. -/
theorem kid_cells {w : World} {ro : Nat → Prop} {b : List UInt8} {v : VT} {k : List RT} {x : Nat} {own : List Nat} (h : NodeAt w ro (.mk b v k) x own) (hb : ∀ u ∈ k, u.begin ≠ []) {i : Nat} (hi : i < k.length) :
    ∃ g cap y q p m cm, w.cell? ⟨x, 1, none⟩ = some (.slice (some ⟨g, 0, none⟩) k.length cap) ∧ w.cell? ⟨g, i, none⟩ = some (ptrV y) ∧ w.cell? ⟨y, 0, none⟩ = some (.slice (some ⟨q, p, none⟩) m cm) ∧ 0 < m ∧
      w.cell? ⟨q, p, none⟩ = some (.int .u8 (k[i].first).toNat) := by
  rw [NodeAt] at h
  obtain ⟨a, ca, kv, xs, rows, h1, h2, h3, h4, _⟩ := h
  have hl := h4.length
  obtain ⟨o, h5, _⟩ := h4.get i hi
  have hbi := hb k[i] (List.getElem_mem hi)
  obtain ⟨c, u, kk, hk⟩ : ∃ c u kk, k[i] = .mk c u kk := by cases k[i]; exact ⟨_, _, _, rfl⟩
  rw [hk] at h5 hbi ⊢
  rw [NodeAt] at h5
  obtain ⟨a', ca', kv', xs', rows', g1, g2, _⟩ := h5
  have hc : 0 < c.length := List.length_pos_iff.2 hbi
  obtain ⟨q, p, rfl, _, _, hq⟩ := g2.2.resolve_left (by omega)
  rcases h3.2 with ⟨_, h0⟩ | ⟨g, cap, cur, rfl, _, hrow, _, _, _, htk⟩
  · omega
  · refine ⟨g, cap, xs.getD i 0, q, p, c.length, ca', cell_in h1 (i := 1) rfl, hrow.cell ?_, cell_in g1 (i := 0) rfl, hc, by have := hq 0 hc; rw [Nat.add_zero] at this; exact this⟩
    have e := congrArg (fun l => l[i]?) htk
    simp only [List.getElem?_take_of_lt hi] at e
    rw [← Array.getElem?_toList, e]
    simp [List.getD, show i < xs.length by omega]
end Go.Proofs.YtbjpfnafhhbmaaaDoor.Sad

/- radix: seek. -/
namespace Go.Proofs.YtbjpfnafhhbmaaaDoor.Sad
open Go.Proofs.YtbjpfnafhhbmaaaDoor
set_option linter.unusedVariables false
set_option linter.unusedSimpArgs false
open Go.RowKit
/-- Where a byte stands among rising ones. -/
def PlaceB (fs : List UInt8) (c : UInt8) (r : Nat) : Prop := r ≤ fs.length ∧ (∀ i, i < r → fs.getD i 0 < c) ∧ (∀ i, r ≤ i → i < fs.length → c ≤ fs.getD i 0)
set_option maxHeartbeats 1600000 in
set_option maxRecDepth 100000 in
theorem radSeek {w : World} {ro : Nat → Prop} {b : List UInt8} {v : VT} {k : List RT} {x : Nat} {own : List Nat} (h : NodeAt w ro (.mk b v k) x own) (hb : ∀ u ∈ k, u.begin ≠ []) (hr : (k.map RT.first).Pairwise (· < ·)) (hn : k.length ≤ 1000) (c : UInt8) :
    Calls Tryd.prog 72 #[ptrV x, .int .u8 c.toNat] w fun e w' => ∃ r, PlaceB (k.map RT.first) c r ∧ e = .returned (.tuple #[.int .i64 r, .bool (decide (r < k.length ∧ (k.map RT.first).getD r 0 = c))]) ∧ Below w.heap.size w w' := by
  obtain ⟨w1, hw1⟩ : ∃ w1, w1 = (w.alloc (.cells #[ptrV x] 91)).alloc (.cells #[.int .u8 c.toNat] 5) := ⟨_, rfl⟩
  have hb1 : Below w.heap.size w w1 := by rw [hw1]; exact ((Below.refl _ _).alloc (Nat.le_refl _) _).alloc (by simp) _
  have q1 : ∀ m, (w1.drewN m).cell? ⟨w.heap.size, 0, none⟩ = some (ptrV x) := fun m => by rw [hw1]; unfold ptrV; go_simp
  have q2 : ∀ m, (w1.drewN m).cell? ⟨w.heap.size + 1, 0, none⟩ = some (.int .u8 c.toNat) := fun m => by rw [hw1]; unfold ptrV; go_simp
  have hN := fun m => NodeAt.chg (Chg.drewN (fun _ => False) w1 m) (fun _ _ => id) (NodeAt.chg (Chg.of_below (fun _ => False) hb1) (fun _ _ => id) h fun _ _ => id) fun _ _ => id
  have hF : ∀ i, i < k.length → ∀ m, Calls Tryd.prog 81 (#[.int .i64 i] ++ #[.pointer (some ⟨w.heap.size, 0, none⟩), .pointer (some ⟨w.heap.size + 1, 0, none⟩)]) (w1.drewN m) fun e w' => e = .returned (.bool (decide ((c.toNat : Int) ≤ ((k.map RT.first).getD i 0).toNat))) ∧ ∃ m', w' = (w1.drewN m).drewN m' := fun i hi m => by
    obtain ⟨g, cap, y, q, p, mm, cm, k1, k2, k3, k4, k5⟩ := kid_cells (hN m) hb hi
    have := radSeek1 (o := 0) (i := i) (q1 m) (q2 m) k1 hi (by omega) (by rw [Nat.zero_add]; exact k2) k3 k4 k5
    rw [show ((k.map RT.first).getD i 0) = k[i].first by simp [List.getD, hi]]
    exact this
  have hkv : ∃ a cap, w.cell? ⟨x, 1, none⟩ = some (.slice a k.length cap) := by
    have h0 := h
    rw [NodeAt] at h0
    obtain ⟨a, ca, kv, xs, rows, h1, _, h3, _⟩ := h0
    obtain ⟨a', cap', rfl, _⟩ := h3.arg
    exact ⟨a', cap', cell_in h1 (i := 1) rfl⟩
  obtain ⟨a, cap, ew⟩ := hkv
  have hx : x < w.heap.size := World.block_lt_of_cell? w _ ew
  have hkv : ∀ m, (w1.drewN m).cell? ⟨x, 1, none⟩ = some (.slice a k.length cap) := fun m => (hb1.cell (p := ⟨x, 1, none⟩) (World.block_lt_of_cell? w _ ew)).trans ew
  have HS := Lib.hid (search_any k.length 81 #[.pointer (some ⟨w.heap.size, 0, none⟩), .pointer (some ⟨w.heap.size + 1, 0, none⟩)] (fun i => decide ((c.toNat : Int) ≤ ((k.map RT.first).getD i 0).toNat)) w1 (by omega) (fun w args => rfl) hF
    (fun i j hij hj hx => by
      simp only [decide_eq_true_eq] at hx ⊢
      rcases Nat.lt_or_ge i j with hlt | hge
      · have := List.pairwise_iff_getElem.1 hr i j (by simp; omega) (by simpa using hj) hlt
        rw [UInt8.lt_iff_toNat_lt] at this
        simp [List.getD, hj, show i < k.length by omega] at hx this ⊢
        omega
      · obtain rfl : i = j := by omega
        exact hx))
  have HW := Lib.hid hw1
  have HB := Lib.hid hb1
  have HN := Lib.hid hN
  have e0 := q1 0
  have e1 := hkv 0
  rw [World.drewN_zero] at e0 e1
  have HQ := Lib.hid (And.intro q1 (And.intro q2 hkv))
  have hkv2 := hkv 0
  rw [World.drewN_zero, HW.out] at hkv2
  unfold ptrV at *
  clear hw1 hb1 hN hF q1 q2 hkv h
  go_enter Tryd.func72, Tryd.ntmps72
  go_wp2_with fail
  rw [← HW.out]
  refine HS.out.mono ?_
  rintro e w' ⟨r, hrl, rfl, p1, p2, m, rfl⟩
  have HP : Hid (PlaceB (k.map RT.first) c r) := Lib.hid ⟨by simpa using hrl, fun i hi => by
    have := p1 i hi
    simp only [decide_eq_false_iff_not] at this
    rw [UInt8.lt_iff_toNat_lt]; omega, fun i h1 h2 => by
    have := p2 i h1 (by simpa using h2)
    simp only [decide_eq_true_eq] at this
    rw [UInt8.le_iff_toNat_le]; omega⟩
  have e2 := HQ.out.1 m
  have e3 := HQ.out.2.1 m
  have e4 := HQ.out.2.2 m
  have HBm := Lib.hid (belowN HB.out (m + 1))
  rcases Nat.lt_or_ge r k.length with hlt | hge
  · obtain ⟨g, cap', y, q, p, mm, cm, k1, k2, k3, k4, k5⟩ := kid_cells (HN.out m) hb hlt
    have hfr : (k.map RT.first).getD r 0 = k[r].first := by simp [List.getD, hlt]
    have hbe : (((k[r].first.toNat : Nat) : Int) == (c.toNat : Int)) = decide (r < k.length ∧ (k.map RT.first).getD r 0 = c) := by
      rw [hfr, Bool.eq_iff_iff, beq_iff_eq, decide_eq_true_eq, Int.ofNat_inj, UInt8.toNat_inj]
      exact ⟨fun h => ⟨hlt, h⟩, fun h => h.2⟩
    rw [e4] at k1
    obtain ⟨rfl, rfl⟩ : a = some ⟨g, 0, none⟩ ∧ cap = cap' := by simpa using k1
    clear k1
    obtain ⟨X1, fx, hX1, hf, hF⟩ := classOf (fun z : World => z.cell? ⟨w.heap.size, 0, none⟩ = some (.pointer (some ⟨x, 0, none⟩)) ∧ z.cell? ⟨w.heap.size + 1, 0, none⟩ = some (.int .u8 c.toNat) ∧ z.cell? ⟨x, 1, none⟩ = some (.slice (some ⟨g, 0, none⟩) k.length cap) ∧
      z.cell? ⟨g, r, none⟩ = some (.pointer (some ⟨y, 0, none⟩)) ∧ z.cell? ⟨y, 0, none⟩ = some (.slice (some ⟨q, p, none⟩) mm cm) ∧ z.cell? ⟨q, p, none⟩ = some (.int .u8 k[r].first.toNat)) ⟨e2, e3, e4, k2, k3, k5⟩
    have f1 := fun z => (hf z).1
    have f2 := fun z => (hf z).2.1
    have f3 := fun z => (hf z).2.2.1
    have f4 := fun z => (hf z).2.2.2.1
    have f5 := fun z => (hf z).2.2.2.2.1
    have f6 := fun z => (hf z).2.2.2.2.2
    have HF := Lib.hid (hF (w1.drewN m).drew ⟨e2, e3, e4, k2, k3, k5⟩)
    have HBe := Lib.hid hbe
    clear hF hf e2 e3 e4 k2 k3 k5 hfr hbe ew hkv2 e0 e1
    go_wp2_with fail
    refine wp_region_text ⟨[], [], 26⟩ (fun w' => ∃ x : X1, w' = fx x) (by kernel_rfl) (by kernel_rfl) HF.out ?_
    refine wpC_seg false (HF.out) 26 0 _ _ (by rfl) (by rfl) ?_
    simp only [List.take_succ_cons, List.take_zero, List.drop_succ_cons, List.drop_zero, Bool.false_eq_true, if_false, Nat.zero_add, Nat.reduceAdd]
    repeat (go_big_quiet_step (fail))
    refine wpQuiet_nil ?_
    refine wpC_nil ?_
    clear f1 f2 f3 f4 f5 f6 HF hX1
    go_wp2_with fail
    go_ret2
    exact ⟨r, HP.out, by rw [← HBe.out]; rfl, HBm.out⟩
  · have hno : decide (r < k.length ∧ (k.map RT.first).getD r 0 = c) = false := by simp; omega
    have HNo := Lib.hid hno
    have e5 : decide (r < k.length) = false := by simp; omega
    obtain ⟨X1, fx, hX1, hf, hF⟩ := classOf (fun z : World => z.cell? ⟨w.heap.size, 0, none⟩ = some (.pointer (some ⟨x, 0, none⟩)) ∧ z.cell? ⟨x, 1, none⟩ = some (.slice a k.length cap)) ⟨e2, e4⟩
    have f1 := fun z => (hf z).1
    have f3 := fun z => (hf z).2
    have HF := Lib.hid (hF (w1.drewN m).drew ⟨e2, e4⟩)
    clear hF hf e2 e3 e4 ew hkv2 e0 e1 hno
    go_wp2_with fail
    refine wp_region_text ⟨[], [], 26⟩ (fun w' => ∃ x : X1, w' = fx x) (by kernel_rfl) (by kernel_rfl) HF.out ?_
    refine wpC_seg false (HF.out) 26 0 _ _ (by rfl) (by rfl) ?_
    simp only [List.take_succ_cons, List.take_zero, List.drop_succ_cons, List.drop_zero, Bool.false_eq_true, if_false, Nat.zero_add, Nat.reduceAdd]
    repeat (go_big_quiet_step (fail))
    refine wpQuiet_nil ?_
    refine wpC_nil ?_
    clear f1 f3 HF hX1
    go_wp2_with fail
    go_ret2
    exact ⟨r, HP.out, by rw [HNo.out]; rfl, HBm.out⟩
end Go.Proofs.YtbjpfnafhhbmaaaDoor.Sad

/- radix: a way down a tree, and what a change at its end makes of the tree. -/
namespace Go.Proofs.YtbjpfnafhhbmaaaDoor.Sad
open Go.Proofs.YtbjpfnafhhbmaaaDoor
set_option linter.unusedVariables false
set_option linter.unusedSimpArgs false
open Go.RowKit RT
/-- Block g is as it was, but for one cell. -/
def SetAt (w w' : World) (g i : Nat) (u : Value) : Prop := ∀ cs E fz, w.heap[g]? = some (.cells cs E fz) → w'.heap[g]? = some (.cells (cs.setIfInBounds i u) E fz)
theorem slot_set {w w' : World} {B : Nat} {e : TypeId} {v : Value} {n g i : Nat} {xs : List Value} {u : Value} (h : SliceIs w B e v n xs) (hg : vblock v = some g) (hs : SetAt w w' g i u) (hi : i < n) : SliceIs w' B e v n (xs.set i u) := by
  refine ⟨by simp [h.1], ?_⟩
  rcases h.2 with ⟨rfl, rfl⟩ | ⟨g', cap, cur, rfl, h2, ⟨fz, h3, h4⟩, h5, h6, h7, h8⟩
  · cases hg
  · cases hg
    refine .inr ⟨g', cap, cur.setIfInBounds i u, rfl, h2, ⟨fz, by simpa using h3, hs _ _ _ h4⟩, by simpa using h5, h6, h7, ?_⟩
    rw [← h8, Array.toList_setIfInBounds, List.take_set]
theorem NodesAt.cut {w : World} {ro : Nat → Prop} : ∀ {l : List RT} {xs own : List Nat}, NodesAt w ro l xs own → ∀ i (h : i < l.length), ∃ pre oi post, own = pre ++ (oi ++ post) ∧ NodeAt w ro l[i] (xs.getD i 0) oi ∧
    ∀ (S ro' : Nat → Prop) (w' : World) (u' : RT) (y' : Nat) (oi' : List Nat), Chg S w w' → (∀ k ∈ pre ++ post, ¬ S k) → (∀ k, ro k → ro' k ∧ ¬ S k) → NodeAt w' ro' u' y' oi' → NodesAt w' ro' (l.set i u') (xs.set i y') (pre ++ (oi' ++ post))
  | [], xs, own, h, i, hi => by simp at hi
  | t :: l, xs, own, h, i, hi => by
    rw [NodesAt] at h
    obtain ⟨x, ys, o1, o2, rfl, h2, h3, rfl⟩ := h
    cases i with
    | zero =>
      refine ⟨[], o1, o2, rfl, by simpa using h2, fun S ro' w' u' y' oi' hc hS hr hn => ?_⟩
      simp only [List.set_cons_zero, List.nil_append]
      rw [NodesAt]
      exact ⟨y', ys, oi', o2, rfl, hn, (h3.chg hc (fun k hk => (hr k hk).2) (fun k hk => hS k (by simpa using hk))).ro fun k hk => (hr k hk).1, rfl⟩
    | succ i =>
      obtain ⟨pre, oi, post, rfl, h4, h5⟩ := NodesAt.cut h3 i (by simpa using hi)
      refine ⟨o1 ++ pre, oi, post, by simp, by simpa using h4, fun S ro' w' u' y' oi' hc hS hr hn => ?_⟩
      simp only [List.set_cons_succ]
      rw [NodesAt]
      refine ⟨x, ys.set i y', o1, pre ++ (oi' ++ post), rfl, (h2.chg hc (fun k hk => (hr k hk).2) fun k hk => hS k (by simp [hk])).ro fun k hk => (hr k hk).1, h5 S ro' w' u' y' oi' hc (fun k hk => hS k (by rcases List.mem_append.1 hk with h | h <;> simp [h])) hr hn, by simp⟩
/-- Node z is the one at place i below node y, of the row g. -/
def KidAt (w : World) (ro : Nat → Prop) (b : List UInt8) (v : VT) (k : List RT) (y : Nat) (o : List Nat) (i z : Nat) (oi : List Nat) (g : Nat) : Prop :=
  ∃ a ca kv xs pre post, w.heap[y]? = some (.cells #[.slice a b.length ca, kv, vC v] 94 (0, 0)) ∧ BytesRo w ro a b ca ∧ SliceIs w 0 91 kv k.length (xs.map ptrV) ∧
    vblock kv = some g ∧ z = xs.getD i 0 ∧ i < k.length ∧ o = y :: ((vblock kv).toList ++ (pre ++ (oi ++ post))) ∧ NodesAt w ro k xs (pre ++ (oi ++ post)) ∧
    (∀ (h : i < k.length), NodeAt w ro k[i] z oi) ∧
    ∀ (S ro' : Nat → Prop) (w' : World) (u' : RT) (y' : Nat) (oi' : List Nat), Chg S w w' → (∀ k ∈ pre ++ post, ¬ S k) → (∀ k, ro k → ro' k ∧ ¬ S k) → NodeAt w' ro' u' y' oi' → NodesAt w' ro' (k.set i u') (xs.set i y') (pre ++ (oi' ++ post))
theorem kid_of {w : World} {ro : Nat → Prop} {b : List UInt8} {v : VT} {k : List RT} {y : Nat} {o : List Nat} (h : NodeAt w ro (.mk b v k) y o) {i : Nat} (hi : i < k.length) : ∃ z oi g, KidAt w ro b v k y o i z oi g := by
  rw [NodeAt] at h
  obtain ⟨a, ca, kv, xs, rows, h1, h2, h3, h4, h5⟩ := h
  obtain ⟨pre, oi, post, rfl, h6, h7⟩ := h4.cut i hi
  obtain ⟨g, hg⟩ : ∃ g, vblock kv = some g := by
    rcases h3.2 with ⟨_, h0⟩ | ⟨g, _, _, rfl, _⟩
    · omega
    · exact ⟨g, rfl⟩
  exact ⟨_, oi, g, a, ca, kv, xs, pre, post, h1, h2, h3, hg, rfl, hi, h5, h4, fun _ => h6, h7⟩
/-- A tree with a root, its own blocks in a list. -/
def RootAt (w : World) (ro : Nat → Prop) (p n : Nat) (t : RT) (x : Nat) (own : List Nat) : Prop :=
  w.heap[p]? = some (.cells #[.bool true, ptrV x, .int .i64 n] 99 (0, 0)) ∧ NodeAt w ro t x own ∧ (p :: own).Nodup ∧ ∀ k ∈ p :: own, ¬ ro k ∧ k < w.heap.size
/-- A way down tree p, of bytes s: it ends at node y (the subtree u, of blocks o; the bytes s' are left), whose pointer lies in the cell A; above: the nodes above; K: the whole tree out of the subtree. -/
inductive Way (w : World) (ro : Nat → Prop) (p n : Nat) (t : RT) (x : Nat) (own : List Nat) (s : List UInt8) : RT → Nat → List Nat → List UInt8 → List Nat → Nat → Nat → (RT → RT) → Prop
  | here (h : RootAt w ro p n t x own) : Way w ro p n t x own s t x own s [] p 1 id
  | down {b : List UInt8} {v : VT} {k : List RT} {y : Nat} {o : List Nat} {s' : List UInt8} {ab : List Nat} {c d : Nat} {K : RT → RT} {i z : Nat} {oi : List Nat} {g : Nat} {u : RT}
      (h : Way w ro p n t x own s (.mk b v k) y o (b ++ s') ab c d K) (hk : KidAt w ro b v k y o i z oi g) (hu : k[i]? = some u) (hs : s' ≠ []) (hf : u.first = s'.getD 0 0) :
      Way w ro p n t x own s u z oi s' (ab ++ [y]) g i fun u' => K (.mk b v (k.set i u'))
section
variable {w : World} {ro : Nat → Prop} {p n : Nat} {t : RT} {x : Nat} {own : List Nat} {s : List UInt8} {u : RT} {y : Nat} {o : List Nat} {s' : List UInt8} {ab : List Nat} {c d : Nat} {K : RT → RT}
theorem Way.root (h : Way w ro p n t x own s u y o s' ab c d K) : RootAt w ro p n t x own := by
  induction h with
  | here h => exact h
  | down _ _ _ _ _ ih => exact ih
theorem Way.node (h : Way w ro p n t x own s u y o s' ab c d K) : NodeAt w ro u y o := by
  cases h with
  | here h => exact h.2.1
  | down h hk hu hs hf =>
    obtain ⟨a, ca, kv, xs, pre, post, h1, h2, h3, h4, h5, h6, h7, h8, h9, h10⟩ := hk
    obtain ⟨hi, hu⟩ := List.getElem?_eq_some_iff.1 hu
    rw [← hu]; exact h9 h6
theorem Way.sub (h : Way w ro p n t x own s u y o s' ab c d K) : (∀ k ∈ o, k ∈ own) ∧ o.Nodup ∧ c ∉ o ∧ c ∈ p :: own := by
  induction h with
  | here h =>
    have := h.2.2.1
    rw [List.nodup_cons] at this
    exact ⟨fun _ h => h, this.2, this.1, by simp⟩
  | down h hk hu hs hf ih =>
    obtain ⟨a, ca, kv, xs, pre, post, h1, h2, h3, h4, h5, h6, h7, h8, h9, h10⟩ := hk
    obtain ⟨i1, i2, i3, i4⟩ := ih
    rw [h4] at h7
    subst h7
    simp only [Option.toList_some, List.nodup_cons, List.nodup_append, List.singleton_append, List.mem_cons, List.mem_append, not_or] at i2
    refine ⟨fun k hk => i1 k (by simp [hk]), i2.2.2.2.1.1, i2.2.1.2.1, ?_⟩
    have := i1 _ (show _ ∈ _ by rw [Option.toList_some]; simp; right; left; rfl)
    simp [this]
theorem Way.cell (h : Way w ro p n t x own s u y o s' ab c d K) : w.cell? ⟨c, d, none⟩ = some (ptrV y) ∧ ∃ cs E, d < cs.size ∧ (∃ fz : Nat × Nat, (¬ (fz.1 ≤ d ∧ d < fz.2)) ∧ w.heap[c]? = some (.cells cs E fz)) ∧ cs[d]? = some (ptrV y) := by
  cases h with
  | here h => exact ⟨cell_in h.1 (i := 1) rfl, _, _, by simp, ⟨_, by simp, h.1⟩, rfl⟩
  | down h hk hu hs hf =>
    obtain ⟨a, ca, kv, xs, pre, post, h1, h2, h3, h4, h5, h6, h7, h8, h9, h10⟩ := hk
    have hl := h8.length
    rcases h3.2 with ⟨rfl, _⟩ | ⟨g, cap, cur, rfl, _, ⟨fz, hf1, hf2⟩, hcs, hcap, _, htk⟩
    · cases h4
    · cases h4
      have e := congrArg (fun l => l[d]?) htk
      simp only [List.getElem?_take_of_lt h6, Array.getElem?_toList] at e
      have e2 : cur[d]? = some (ptrV y) := by rw [e, h5]; simp [List.getD, show d < xs.length by omega]
      have hlt : d < cur.size := by omega
      exact ⟨cell_in hf2 e2, cur, _, hlt, ⟨fz, hf1 d hlt, hf2⟩, e2⟩
/-- What a change at the way's end makes of the tree. -/
theorem Way.back (h : Way w ro p n t x own s u y o s' ab c d K) : ∀ {w' : World} {ro' : Nat → Prop} {u' : RT} {y' : Nat} {o' : List Nat}, Chg (fun k => k ∈ o ∨ k = c) w w' → SetAt w w' c d (ptrV y') → NodeAt w' ro' u' y' o' →
    (∀ k, ro k → ro' k) → (∀ k, ro' k → ro k ∨ w.heap.size ≤ k) → o'.Nodup → (∀ k ∈ o', (k ∈ o ∨ w.heap.size ≤ k) ∧ ¬ ro' k ∧ k < w'.heap.size) →
    ∃ x' own', RootAt w' ro' p n (K u') x' own' ∧ ∀ k ∈ own', k ∈ own ∨ w.heap.size ≤ k := by
  induction h with
  | here h =>
    intro w' ro' u' y' o' hc hs hn hr hr' hd ho
    obtain ⟨h1, h2, h3, h4⟩ := h
    refine ⟨y', o', ⟨hs _ _ _ h1, hn, List.nodup_cons.2 ⟨fun hp => ?_, hd⟩, fun k hk => ?_⟩, fun k hk => (ho k hk).1⟩
    · rcases (ho _ hp).1 with hp | hp
      · exact (List.nodup_cons.1 h3).1 hp
      · have := (h4 p (by simp)).2; omega
    · rcases List.mem_cons.1 hk with rfl | hk
      · have := h4 k (by simp)
        have h5 := hc.size
        refine ⟨fun hk => ?_, by omega⟩
        rcases hr' k hk with hk | hk
        · exact this.1 hk
        · omega
      · exact (ho k hk).2
  | @down b v k y o s' ab c d K i z oi g u h hk hu hs hf ih =>
    intro w' ro' u' y' o' hc hset hn hr hr' hd ho
    have hroot := h.root
    have hsub := h.sub
    have hown : ∀ q ∈ own, ¬ ro q ∧ q < w.heap.size := fun q hq => hroot.2.2.2 q (by simp [hq])
    have hcell := h.cell
    obtain ⟨a, ca, kv, xs, pre, post, h1, h2, h3, h4, h5, h6, h7, h8, h9, h10⟩ := hk
    have hnd := hsub.2.1
    have hino := hsub.1
    have hcno := hsub.2.2.1
    have hcin := hsub.2.2.2
    rw [h7, h4] at hnd hcno
    simp only [Option.toList_some, List.nodup_cons, List.nodup_append, List.singleton_append, List.mem_cons, List.mem_append, not_or] at hnd hcno
    obtain ⟨⟨n1, n2, n3, n4⟩, ⟨n5, n6, n7⟩, n8, ⟨n9, n10, n11⟩, n12⟩ := hnd
    have hinO : ∀ q, (q = y ∨ q = g ∨ q ∈ pre ∨ q ∈ oi ∨ q ∈ post) → q ∈ o := fun q hq => by rw [h7, h4]; simpa using hq
    have hlt : ∀ q ∈ o, q < w.heap.size := fun q hq => (hown q (hino q hq)).2
    have hnr : ∀ q ∈ o, ¬ ro q := fun q hq => (hown q (hino q hq)).1
    have hl := h8.length
    -- the kid's node
    have hN : NodeAt w' ro' (.mk b v (k.set i u')) y (y :: ((vblock kv).toList ++ (pre ++ (o' ++ post)))) := by
      rw [NodeAt]
      refine ⟨a, ca, kv, xs.set i y', pre ++ (o' ++ post), hc.keep h1 (by rw [not_or]; exact ⟨n3, n1⟩), ?_, ?_, ?_, rfl⟩
      · have := h2.chg hc (fun q hq hS => ?_)
        · exact ⟨this.1, this.2.imp id fun ⟨q, e, r1, r2, r3⟩ => ⟨q, e, r1, hr q r2, r3⟩⟩
        · rcases hS with hS | rfl
          · exact hnr q (hinO q (by simp [hS])) hq
          · exact hnr q (hinO q (by simp)) hq
      · have := slot_set h3 h4 hset h6
        rw [List.map_set, List.length_set]
        exact this
      · refine h10 _ ro' w' u' y' o' hc (fun q hq hS => ?_) (fun q hq => ⟨hr q hq, fun hS => ?_⟩) hn
        · rcases hS with hS | rfl
          · rcases List.mem_append.1 hq with hq | hq
            · exact n12 q hq q (by simp [hS]) rfl
            · exact n11 q hS q hq rfl
          · rcases List.mem_append.1 hq with hq | hq
            · exact n5 hq
            · exact n7 hq
        · rcases hS with hS | rfl
          · exact hnr q (hinO q (by simp [hS])) hq
          · exact hnr q (hinO q (by simp)) hq
    have hgo : g ∈ o := hinO g (by simp)
    have hyo : y ∈ o := hinO y (by simp)
    have hnew : ∀ q ∈ o', q ∈ oi ∨ w.heap.size ≤ q := fun q hq => (ho q hq).1
    have hcg : c ≠ g := fun e => hcno.2.1 e
    have hset' : SetAt w w' c d (ptrV y) := by
      intro cs E fz hcs
      obtain ⟨_, cs', E', _, ⟨fz', _, hh⟩, hv⟩ := hcell
      rw [hcs] at hh
      cases hh
      have e : cs.setIfInBounds d (ptrV y) = cs := by
        apply Array.ext_getElem?
        intro j
        rw [Array.getElem?_setIfInBounds]
        split
        · next hj =>
          subst hj
          rw [hv]
        · rfl
      rw [e]
      refine hc.keep hcs ?_
      rintro (hS | rfl)
      · exact hcno.2.2.2.1 hS
      · exact hcg rfl
    have g1 : (y :: ((vblock kv).toList ++ (pre ++ (o' ++ post)))).Nodup := by
      rw [h4]
      simp only [Option.toList_some, List.nodup_cons, List.nodup_append, List.singleton_append, List.mem_cons, List.mem_append, not_or]
      have hfr : ∀ q ∈ o, q ∉ oi → q ∉ o' := fun q hq hno hq' => by
        rcases hnew q hq' with h | h
        · exact hno h
        · have := hlt q hq; omega
      refine ⟨⟨n1, n2, hfr y hyo n3, n4⟩, ⟨n5, hfr g hgo n6, n7⟩, n8, ⟨hd, n10, ?_⟩, ?_⟩
      · intro q hq q' hq' e
        subst e
        exact hfr q (hinO q (by simp [hq'])) (fun hh => n11 q hh q hq' rfl) hq
      · intro q hq q' hq' e
        subst e
        rcases hq' with hq' | hq'
        · exact hfr q (hinO q (by simp [hq])) (fun hh => n12 q hq q (by simp [hh]) rfl) hq'
        · exact n12 q hq q (by simp [hq']) rfl
    have g2 : ∀ q ∈ (y :: ((vblock kv).toList ++ (pre ++ (o' ++ post)))), (q ∈ o ∨ w.heap.size ≤ q) ∧ ¬ ro' q ∧ q < w'.heap.size := by
      intro q hq
      have old : q ∈ o → (q ∈ o ∨ w.heap.size ≤ q) ∧ ¬ ro' q ∧ q < w'.heap.size := fun hq => ⟨.inl hq, fun hh => by
        rcases hr' q hh with hh | hh
        · exact hnr q hq hh
        · have := hlt q hq; omega, Nat.lt_of_lt_of_le (hlt q hq) hc.size⟩
      rw [h4] at hq
      simp only [Option.toList_some, List.singleton_append, List.mem_cons, List.mem_append] at hq
      rcases hq with hq | hq | hq | hq | hq
      · exact old (hinO q (by simp [hq]))
      · exact old (hinO q (by simp [hq]))
      · exact old (hinO q (by simp [hq]))
      · refine ⟨?_, (ho q hq).2⟩
        rcases (ho q hq).1 with h | h
        · exact .inl (hinO q (by simp [h]))
        · exact .inr h
      · exact old (hinO q (by simp [hq]))
    exact ih (hc.mono fun q hq _ => by
        rcases hq with hq | rfl
        · exact .inl (hinO q (by simp [hq]))
        · exact .inl hgo) hset' hN hr hr' g1 g2
end
end Go.Proofs.YtbjpfnafhhbmaaaDoor.Sad

/- radix: a way down a tree in plain Lean: what is there, what a put and a deletion make of it. -/
namespace Go.Proofs.YtbjpfnafhhbmaaaDoor.Sad
open Go.Proofs.YtbjpfnafhhbmaaaDoor
set_option linter.unusedVariables false
set_option linter.unusedSimpArgs false
open Go.RowKit RT
theorem RT.ne_of_lt {a b : UInt8} (h : a < b) : a ≠ b := fun e => by subst e; rw [UInt8.lt_iff_toNat_lt] at h; omega
theorem RT.not_lt_of_lt {a b : UInt8} (h : a < b) : ¬ b < a := fun h' => by rw [UInt8.lt_iff_toNat_lt] at h h'; omega
theorem RT.lookS_get {s : List UInt8} {u : RT} : ∀ {l : List RT} {n i : Nat}, WFS n l → l[i]? = some u → u.first = s.getD 0 0 → lookS l s = look u s
  | [], n, i, _, h, _ => by simp at h
  | t :: l, n, i, hw, h, hf => by
    rw [WFS] at hw
    cases i with
    | zero =>
      obtain rfl : t = u := by simpa using h
      rw [lookS]; exact if_pos hf
    | succ i =>
      have hl : l[i]? = some u := by simpa using h
      have := hw.2.2.1 u (List.mem_of_getElem? hl)
      rw [lookS]; exact (if_neg (fun e => RT.ne_of_lt this (Eq.trans e hf.symm))).trans (RT.lookS_get hw.2.2.2 hl hf)
theorem RT.putS_get {s : List UInt8} {u : RT} (x : VT) : ∀ {l : List RT} {n i : Nat}, WFS n l → l[i]? = some u → u.first = s.getD 0 0 → putS l s x = l.set i (RT.put u s x)
  | [], n, i, _, h, _ => by simp at h
  | t :: l, n, i, hw, h, hf => by
    rw [WFS] at hw
    cases i with
    | zero =>
      obtain rfl : t = u := by simpa using h
      rw [putS, if_pos hf]; rfl
    | succ i =>
      have hl : l[i]? = some u := by simpa using h
      have := hw.2.2.1 u (List.mem_of_getElem? hl)
      rw [putS, ← hf, if_neg (RT.ne_of_lt this), if_neg (RT.not_lt_of_lt this), RT.putS_get x hw.2.2.2 hl hf]; rfl
theorem RT.delS_get {s : List UInt8} {u : RT} : ∀ {l : List RT} {n i : Nat}, WFS n l → l[i]? = some u → u.first = s.getD 0 0 → delS l s = if u.kids.isEmpty then l.eraseIdx i else l.set i (RT.del u s)
  | [], n, i, _, h, _ => by simp at h
  | t :: l, n, i, hw, h, hf => by
    rw [WFS] at hw
    cases i with
    | zero =>
      obtain rfl : t = u := by simpa using h
      rw [delS, if_pos hf]; rfl
    | succ i =>
      have hl : l[i]? = some u := by simpa using h
      have := hw.2.2.1 u (List.mem_of_getElem? hl)
      rw [delS, ← hf, if_neg (RT.ne_of_lt this), RT.delS_get hw.2.2.2 hl hf]
      split <;> rfl
theorem RT.put_append (b s : List UInt8) (w : VT) (k : List RT) (x : VT) (hs : s ≠ []) : RT.put (mk b w k) (b ++ s) x = mk b w (putS k s x) := by
  rw [RT.put, if_neg (alike_append b s)]
  simp [hs]
theorem RT.join_two {b : List UInt8} {w : VT} {l : List RT} (h : 2 ≤ l.length) : join b w l = mk b w l := by
  unfold join
  split
  · simp at h
  · rfl
section
variable {w : World} {ro : Nat → Prop} {p n : Nat} {t : RT} {x : Nat} {own : List Nat} {s : List UInt8} {u : RT} {y : Nat} {o : List Nat} {s' : List UInt8} {ab : List Nat} {c d : Nat} {K : RT → RT}
theorem Way.plain (h : Way w ro p n t x own s u y o s' ab c d K) (hw : WF s.length t) : WF s'.length u ∧ RT.look t s = RT.look u s' ∧ (∀ v, RT.put t s v = K (RT.put u s' v)) ∧ (u.kids ≠ [] → RT.del t s = K (RT.del u s')) ∧ s'.length ≤ s.length ∧ ab.length + s'.length ≤ s.length + 1 ∧ (ab = [] ∨ u.begin ≠ []) := by
  induction h with
  | here h => exact ⟨hw, rfl, fun _ => rfl, fun _ => rfl, Nat.le_refl _, by simp, .inl rfl⟩
  | @down b v k y o s' ab c d K i z oi g u h hk hu hs hf ih =>
    obtain ⟨h1, h2, h3, h4, h5, h6, h7⟩ := ih
    obtain ⟨hi, hu'⟩ := List.getElem?_eq_some_iff.1 hu
    rw [WF] at h1
    have hk2 : 2 ≤ k.length ∧ WFS s'.length k := by
      rcases h1.2 with ⟨rfl, _⟩ | ⟨q1, _, _, q2⟩
      · simp at hi
      · rw [List.length_append, Nat.add_sub_cancel_left] at q2; exact ⟨q1, q2⟩
    have hm := hk2.2.mem u (List.mem_of_getElem? hu)
    have hs0 : 0 < s'.length := List.length_pos_iff.2 hs
    simp only [List.length_append, List.length_cons, List.length_nil] at h5 h6 ⊢
    refine ⟨hm.2, ?_, fun x => ?_, fun hne => ?_, by omega, ?_, .inr hm.1⟩
    · rw [h2, look_append, if_neg hs, RT.lookS_get hk2.2 hu hf]
    · rw [h3, RT.put_append _ _ _ _ _ hs, RT.putS_get x hk2.2 hu hf]
    · rw [h4 (fun e => by rw [show (mk b v k).kids = k from rfl] at e; rw [e] at hi; simp at hi), RT.del]
      rw [show (b ++ s').drop b.length = s' by simp, RT.delS_get hk2.2 hu hf, if_neg (by simpa using hne), RT.join_two (by simpa using hk2.1)]
    · rcases h7 with rfl | h7
      · simp; omega
      · have : 0 < b.length := List.length_pos_iff.2 h7
        omega
end
end Go.Proofs.YtbjpfnafhhbmaaaDoor.Sad

/- radix: add. -/
namespace Go.Proofs.YtbjpfnafhhbmaaaDoor.Sad
open Go.Proofs.YtbjpfnafhhbmaaaDoor
set_option linter.unusedVariables false
set_option linter.unusedSimpArgs false
open Go.RowKit RT
theorem info_node : (Tryd.prog.info? 91).map (fun i => (i.zero, i.size, i.bytes)) = some (some (.pointer none), 1, 8) := by kernel_rfl
/-- A row into which one more has been laid. -/
theorem row_ins {cur : Array Value} {L : List Value} {z u : Value} {n r : Nat} (h : cur.toList.take (n + 1) = L ++ [z]) (hL : L.length = n) (hr : r ≤ n) (hc : n + 1 ≤ cur.size) :
    ((spliced cur (r + 1) (L.drop r)).setIfInBounds r u).toList.take (n + 1) = L.take r ++ u :: L.drop r := by
  obtain ⟨R, hR⟩ : ∃ R, cur.toList = L ++ ([z] ++ R) := ⟨cur.toList.drop (n + 1), by rw [← List.append_assoc, ← h, List.take_append_drop]⟩
  have hs : (spliced cur (r + 1) (L.drop r)).toList = L.take r ++ ((L ++ [z]).getD r z :: (L.drop r ++ R)) := by
    unfold spliced
    simp only [hR]
    apply List.ext_getElem?
    intro j
    have hl : (L.take r).length = r := by simp; omega
    rcases Nat.lt_or_ge j r with h1 | h1
    · rw [List.append_assoc, List.getElem?_append_left (by simp; omega), List.getElem?_take_of_lt (by omega), List.getElem?_append_left (by omega), List.getElem?_append_left (by omega), List.getElem?_take_of_lt h1]
    · obtain ⟨d, rfl⟩ : ∃ d, j = r + d := ⟨j - r, by omega⟩
      rw [List.getElem?_append_right (by omega : (L.take r).length ≤ r + d), hl, Nat.add_sub_cancel_left]
      cases d with
      | zero =>
        rw [List.append_assoc, List.getElem?_append_left (by simp; omega), List.getElem?_take_of_lt (by omega)]
        simp only [Nat.add_zero, List.getElem?_cons_zero]
        rw [← List.append_assoc, List.getElem?_append_left (by simp; omega)]
        rw [List.getElem?_eq_getElem (show r < (L ++ [z]).length by simp; omega)]
        simp [List.getD, List.getElem?_eq_getElem (show r < (L ++ [z]).length by simp; omega)]
      | succ d =>
        have ht : ((L ++ ([z] ++ R)).take (r + 1)).length = r + 1 := by simp; omega
        simp only [List.getElem?_cons_succ]
        rw [List.append_assoc, List.getElem?_append_right (by omega), ht, show r + (d + 1) - (r + 1) = d by omega]
        congr 2
        rw [List.length_drop, hL, show r + 1 + (n - r) = n + 1 by omega, ← List.append_assoc, List.drop_left' (by simp; omega)]
  rw [Array.toList_setIfInBounds, hs, List.set_append_right _ _ (by simp; omega)]
  simp only [List.length_take, hL, Nat.min_eq_left hr, Nat.sub_self, List.set_cons_zero]
  rw [List.take_append, List.take_of_length_le (by simp; omega)]
  simp only [List.length_take, hL, Nat.min_eq_left hr, show n + 1 - r = (n - r) + 1 by omega, List.take_succ_cons]
  rw [List.take_left' (by simp; omega)]
/-- A node's parts. -/
def Parts (w : World) (ro : Nat → Prop) (b : List UInt8) (v : VT) (k : List RT) (x : Nat) (a : Option Addr) (ca : Nat) (kv : Value) (xs rows : List Nat) : Prop :=
  w.heap[x]? = some (.cells #[.slice a b.length ca, kv, vC v] 94 (0, 0)) ∧ BytesRo w ro a b ca ∧ SliceIs w 0 91 kv k.length (xs.map ptrV) ∧ NodesAt w ro k xs rows
theorem Parts.node {w : World} {ro : Nat → Prop} {b : List UInt8} {v : VT} {k : List RT} {x : Nat} {a : Option Addr} {ca : Nat} {kv : Value} {xs rows : List Nat} (h : Parts w ro b v k x a ca kv xs rows) : NodeAt w ro (.mk b v k) x (x :: ((vblock kv).toList ++ rows)) := by
  rw [NodeAt]
  exact ⟨a, ca, kv, xs, rows, h.1, h.2.1, h.2.2.1, h.2.2.2, rfl⟩
theorem parts_of {w : World} {ro : Nat → Prop} {b : List UInt8} {v : VT} {k : List RT} {x : Nat} {own : List Nat} (h : NodeAt w ro (.mk b v k) x own) : ∃ a ca kv xs rows, Parts w ro b v k x a ca kv xs rows ∧ own = x :: ((vblock kv).toList ++ rows) := by
  rw [NodeAt] at h
  obtain ⟨a, ca, kv, xs, rows, h1, h2, h3, h4, h5⟩ := h
  exact ⟨a, ca, kv, xs, rows, ⟨h1, h2, h3, h4⟩, h5⟩
/-- What add leaves. -/
def Added (w : World) (b : List UInt8) (v : VT) (k : List RT) (x : Nat) (a : Option Addr) (ca : Nat) (kv : Value) (xs : List Nat) (c : UInt8) (y : Nat) (e : Ending) (w' : World) : Prop :=
  e = .returned (.tuple #[]) ∧ ∃ r kv', PlaceB (k.map RT.first) c r ∧ w'.heap[x]? = some (.cells #[.slice a b.length ca, kv', vC v] 94 (0, 0)) ∧
    SliceIs w' 0 91 kv' (k.length + 1) ((xs.take r ++ y :: xs.drop r).map ptrV) ∧ (vblock kv' = vblock kv ∨ ∃ g, vblock kv' = some g ∧ w.heap.size ≤ g) ∧ Chg (fun j => j = x ∨ vblock kv = some j) w w'
set_option maxHeartbeats 1600000 in
set_option maxRecDepth 100000 in
theorem radAdd {w : World} {ro : Nat → Prop} {b : List UInt8} {v : VT} {k : List RT} {x : Nat} {a : Option Addr} {ca : Nat} {kv : Value} {xs rows : List Nat} (h : Parts w ro b v k x a ca kv xs rows) (hx : vblock kv ≠ some x)
    (hb : ∀ u ∈ k, u.begin ≠ []) (hr : (k.map RT.first).Pairwise (· < ·)) (hn : k.length ≤ 1000) {y q p m cm : Nat} {c : UInt8} (hy : w.cell? ⟨y, 0, none⟩ = some (.slice (some ⟨q, p, none⟩) m cm)) (hm : 0 < m) (hc : w.cell? ⟨q, p, none⟩ = some (.int .u8 c.toNat)) :
    Calls Tryd.prog 71 #[ptrV x, ptrV y] w (Added w b v k x a ca kv xs c y) := by
  have HS := Lib.hid (radSeek h.node hb hr hn c)
  obtain ⟨h1, _, h3, h4⟩ := h
  have hl := h4.length
  have H1 := Lib.hid h1
  have H3 := Lib.hid h3
  have hxs := heap_lt h1
  have HX := Lib.hid hx
  clear h1 h3 h4 hb hr hx
  unfold ptrV
  go_enter Tryd.func71, Tryd.ntmps71
  go_wp2_with fail
  refine HS.out.mono ?_
  rintro e w1 ⟨r, hP, rfl, hbl⟩
  have hrl : r ≤ k.length := by have := hP.1; simpa using this
  have h1 : w1.heap[x]? = some (.cells #[.slice a b.length ca, kv, vC v] 94 (0, 0)) := (hbl.block x hxs).trans H1.out
  have hkv : ∀ g, vblock kv = some g → g < w.heap.size := fun g hg => (H3.out.block_lt hg).2
  obtain ⟨i0, g1, g2, g3, g4⟩ := info_parts info_node
  obtain ⟨kv', w2, hr2, hs2, hc2, hv2⟩ := run_append_own1 (P := Tryd.prog) (t := 92) (ty := 92) Tryd.underlying92 g1 g2 g3 g4 rfl (H3.out.below hbl) (.pointer none) rfl (by unfold maxLen; omega) (by omega)
  obtain ⟨g, cap, cur, rfl, _, hrow, hcs, hnc, hcm, htk⟩ := hs2.2.resolve_left (by simp)
  have hgx : g ≠ x := by
    rcases hv2 with hv2 | ⟨g', hv2, hge⟩
    · intro e; exact HX.out (hv2.symm.trans (by rw [← e]; rfl))
    · obtain rfl : g = g' := by simpa [vblock] using hv2
      have := hbl.size; omega
  have h2 : w2.heap[x]? = some (.cells #[.slice a b.length ca, kv, vC v] 94 (0, 0)) := hc2.keep h1 HX.out
  have e3 : w2.setCell ⟨x, 1, none⟩ (.slice (some ⟨g, 0, none⟩) (k.length + 1) cap) = w2.setRow x #[.slice a b.length ca, .slice (some ⟨g, 0, none⟩) (k.length + 1) cap, vC v] := by rw [setCell_eq_setRow w2 x 1 _ _ _ _ h2]; rfl
  obtain ⟨w3, hw3⟩ : ∃ w3, w3 = w2.setCell ⟨x, 1, none⟩ (.slice (some ⟨g, 0, none⟩) (k.length + 1) cap) := ⟨_, rfl⟩
  have h3 : w3.heap[x]? = some (.cells #[.slice a b.length ca, .slice (some ⟨g, 0, none⟩) (k.length + 1) cap, vC v] 94 (0, 0)) := by rw [hw3, e3]; exact heap_setRow h2 _
  have r3 : RowAt w3 g 91 cur := by rw [hw3, e3]; exact hrow.other _ hgx
  obtain ⟨cur4, hcur4⟩ : ∃ cur4, cur4 = spliced cur (r + 1) (((xs.map ptrV).drop r)) := ⟨_, rfl⟩
  have hld : ((xs.map ptrV).drop r).length = k.length - r := by simp [hl]
  have z4 : cur4.size = cur.size := by rw [hcur4]; exact spliced_size _ _ _ (by omega)
  have hcells : ∀ d, ∀ j u, ((xs.map ptrV).drop r)[j]? = some u → (w3.drewN d).cell? ((⟨g, r, none⟩ : Addr).add j) = some u := fun d j u hu => by
    rw [Addr.add_lit]
    refine (r3.drewN d).cell ?_
    rw [List.getElem?_drop] at hu
    have hjl : r + j < k.length := by have := (List.getElem?_eq_some_iff.1 hu).1; simp [hl] at this; omega
    rw [← Array.getElem?_toList]
    have e := congrArg (fun l => l[r + j]?) htk
    simp only [List.getElem?_take_of_lt (show r + j < k.length + 1 by omega)] at e
    rw [e, List.getElem?_append_left (by simp [hl]; omega)]
    exact hu
  have hcpy : ∀ d, (Builtin.copy_ #[92, 92] 3 #[.slice (if cap = r + 1 then some ⟨g, 0, none⟩ else some ⟨g, r + 1, none⟩) (k.length - r) (cap - (r + 1)), .slice (some ⟨g, r, none⟩) (k.length + 1 - r) (cap - r)]).run Tryd.prog (w3.drewN d) =
      .ok (.int .i64 ((k.length - r : Nat) : Int)) ((w3.drewN d).setRow g cur4) := fun d => by
    rw [hcur4]
    split
    · have h0 : (xs.map ptrV).drop r = [] := List.eq_nil_of_length_eq_zero (by omega)
      have := run_copy_row (w3.drewN d) 92 92 3 _ i0 Tryd.underlying92 g1 g3 g 0 (k.length - r) (cap - (r + 1)) cur (r3.drewN d) ⟨g, r, none⟩ (k.length + 1 - r) (cap - r) (k.length - r) (by omega) (by omega) [] (by simp; omega) (by simp) (by simp)
      rw [h0, this]; simp [spliced]
    · exact run_copy_row (w3.drewN d) _ _ _ _ i0 Tryd.underlying92 g1 g3 g (r + 1) _ _ cur (r3.drewN d) ⟨g, r, none⟩ _ _ (k.length - r) (by omega) (by omega) _ hld (hcells d) (fun u hu => by
        obtain ⟨z, _, rfl⟩ := List.mem_map.1 (List.mem_of_mem_drop hu)
        rfl)
  have d4 : ((w3.drewN 1).setRow g cur4).heap[x]? = some (.cells #[.slice a b.length ca, .slice (some ⟨g, 0, none⟩) (k.length + 1) cap, vC v] 94 (0, 0)) := (setRow_other (w3.drewN 1) g x cur4 (Ne.symm hgx)).trans h3
  have r4 : RowAt ((w3.drewN 1).setRow g cur4) g 91 cur4 := (r3.drewN 1).setRow z4
  obtain ⟨w5, hw5⟩ : ∃ w5, w5 = ((w3.drewN 1).setRow g cur4).setCell ⟨g, r, none⟩ (ptrV y) := ⟨_, rfl⟩
  have e5 : w5 = (w3.drewN 1).setRow g (cur4.setIfInBounds r (ptrV y)) := by rw [hw5]; exact (r3.drewN 1).setSet cur4 r _
  have hc5 : Chg (fun j => j = x ∨ vblock kv = some j) w w5 := by
    rw [e5]
    refine ((Chg.of_below (fun j => j = x ∨ vblock kv = some j) hbl).trans hc2 fun j hj _ => .inr hj).trans (S' := fun j => j = x ∨ j = g) ?_ fun j hj hlt => ?_
    · refine (show Chg (fun j => j = x ∨ j = g) w2 w3 from by rw [hw3]; exact Chg.setCell _ _ _ _ (.inl rfl)).trans ((Chg.drewN (fun j => j = x ∨ j = g) w3 1).trans (Chg.setRow (fun j => j = x ∨ j = g) _ _ _ (.inr rfl)) fun _ h _ => h) fun _ h _ => h
    · rcases hj with rfl | rfl
      · exact .inl rfl
      · right
        rcases hv2 with hv2 | ⟨g', hv2, hge⟩
        · exact hv2.symm
        · obtain rfl : j = g' := by simpa [vblock] using hv2
          have := hbl.size; omega
  have hfin : Added w b v k x a ca kv xs c y (.returned (.tuple #[])) w5 := by
    refine ⟨rfl, r, _, hP, ?_, ?_, hv2.imp id fun ⟨g', e1, e2⟩ => ⟨g', e1, Nat.le_trans hbl.size e2⟩, hc5⟩
    · rw [e5]; exact (setRow_other (w3.drewN 1) g x _ (Ne.symm hgx)).trans h3
    · refine ⟨by simp [hl]; omega, .inr ⟨g, cap, cur4.setIfInBounds r (ptrV y), rfl, Nat.zero_le _, ?_, by simp [z4, hcs], hnc, hcm, ?_⟩⟩
      · rw [e5]; exact (r3.drewN 1).setRow (by simp [z4])
      · rw [hcur4]
        have := row_ins (u := ptrV y) htk (by simp [hl]) hrl (by omega)
        rw [this]
        simp
  have HFin := Lib.hid hfin
  have HW3 := Lib.hid hw3
  have HW5 := Lib.hid hw5
  have HCp := Lib.hid hcpy
  have HR2 := Lib.hid hr2
  have c1 := cell_in h1 (i := 1) rfl
  have c2 := cell_in h2 (i := 1) rfl
  have f2 := frozen_in h2 1
  have c3 := cell_in h3 (i := 1) rfl
  have c4 := cell_in d4 (i := 1) rfl
  have c4r := r4.cell (i := r) (v := cur4[r]'(by omega)) (by simp)
  have f4r := r4.free (i := r) (by omega)
  have hq : ¬ cap = r := by omega
  have hqn : r + 1 ≤ k.length + 1 := by omega
  unfold maxLen at hcm
  generalize cur4[r]'_ = old at *
  clear hfin hw3 hw5 hcpy hr2 hc5 e5 r4 d4 hcells hld z4 hcur4 e3 h3 r3 h2 h1 hkv hs2 hc2 hv2 htk hrow hcs HS g1 g2 g3 g4 hP hbl
  go_wp2_with (at_builtin; refine wpList_append_run rfl rfl HR2.out ?_)
  rw [← HW3.out]
  obtain ⟨X1, f, hX1, hf, hF⟩ := classOf (fun w => w.cell? ⟨x, 1, none⟩ = some (.slice (some ⟨g, 0, none⟩) (k.length + 1) cap)) c3
  have HF1 := Lib.hid (hF (w3.drewN 1) c3)
  clear hF
  refine wp_region_text ⟨[13], [], 13⟩ (fun w' => ∃ x : X1, w' = f x) (by kernel_rfl) (by kernel_rfl) HF1.out ?_
  refine wpC_seg false (HF1.out) 13 0 _ _ (by rfl) (by rfl) ?_
  simp only [List.take_succ_cons, List.take_zero, List.drop_succ_cons, List.drop_zero, Bool.false_eq_true, if_false, Nat.zero_add, Nat.reduceAdd]
  repeat (go_big_quiet_step (fail))
  refine wpQuiet_nil ?_
  refine wpC_value (by rfl) (by rfl) (exec_copy rfl (HCp.out 1)) (fun h => absurd h (by decide)) ?_
  generalize (if cap = r + 1 then some (⟨g, 0, none⟩ : Addr) else some ⟨g, r + 1, none⟩) = adr
  refine wpC_nil ?_
  simp only [Act.put, List.setIfInBounds_toArray, List.set_cons_succ, List.set_cons_zero]
  clear hf hX1 HF1
  go_wp2_with fail
  go_end0
  have := HFin.out
  rw [HW5.out] at this
  exact this
end Go.Proofs.YtbjpfnafhhbmaaaDoor.Sad

/- radix: find. -/
namespace Go.Proofs.YtbjpfnafhhbmaaaDoor.Sad
open Go.Proofs.YtbjpfnafhhbmaaaDoor
set_option linter.unusedVariables false
set_option linter.unusedSimpArgs false
open Go.RowKit RT
theorem RT.WFS.rise : ∀ {l : List RT} {n : Nat}, WFS n l → (l.map RT.first).Pairwise (· < ·)
  | [], n, _ => by simp
  | t :: l, n, h => by
    rw [WFS] at h
    rw [List.map_cons, List.pairwise_cons]
    exact ⟨fun a ha => by obtain ⟨u, hu, rfl⟩ := List.mem_map.1 ha; exact h.2.2.1 u hu, RT.WFS.rise h.2.2.2⟩
theorem rise_ge {l : List UInt8} (h : l.Pairwise (· < ·)) : ∀ i (hi : i < l.length), i ≤ l[i].toNat
  | 0, _ => Nat.zero_le _
  | i + 1, hi => by
    have h1 := rise_ge h i (by omega)
    have h2 := List.pairwise_iff_getElem.1 h i (i + 1) (by omega) hi (by omega)
    rw [UInt8.lt_iff_toNat_lt] at h2
    omega
theorem RT.WFS.few {l : List RT} {n : Nat} (h : WFS n l) : l.length ≤ 256 := by
  rcases Nat.eq_zero_or_pos l.length with h0 | h0
  · omega
  · have h1 := rise_ge h.rise (l.length - 1) (by simp; omega)
    have h2 := ((l.map RT.first)[l.length - 1]'(by simp; omega)).toNat_lt
    omega
theorem RT.WF.kids {n : Nat} {b : List UInt8} {v : VT} {k : List RT} (h : WF n (.mk b v k)) : b.length ≤ n ∧ (k = [] → b.length = n) ∧ (k ≠ [] → 2 ≤ k.length ∧ v = zT ∧ b.length < n) ∧ WFS (n - b.length) k := by
  rw [WF] at h
  rcases h.2 with ⟨h1, h2⟩ | ⟨h1, h2, h3, h4⟩
  · exact ⟨h.1, fun _ => h2, fun h => absurd h1 h, by rw [h1, WFS]; trivial⟩
  · exact ⟨h.1, fun h => by rw [h] at h1; simp at h1, fun _ => ⟨h1, h2, h3⟩, h4⟩
theorem place_no {fs : List UInt8} {c : UInt8} {r : Nat} (h : PlaceB fs c r) (hr : fs.Pairwise (· < ·)) (hn : ¬ (r < fs.length ∧ fs.getD r 0 = c)) : ∀ f ∈ fs, f ≠ c := by
  rintro f hf rfl
  obtain ⟨i, hi, hfi⟩ := List.getElem_of_mem hf
  have hg : ∀ j, j < fs.length → fs.getD j 0 = fs[j]! := fun j hj => by simp [List.getD, hj]
  have gi : fs.getD i 0 = f := by simp [List.getD, hi, hfi]
  rcases Nat.lt_or_ge i r with h1 | h1
  · have := h.2.1 i h1
    rw [gi, UInt8.lt_iff_toNat_lt] at this; omega
  · have hrl : r < fs.length := by omega
    have h2 := h.2.2 r (Nat.le_refl _) hrl
    rcases Nat.eq_or_lt_of_le h1 with rfl | h3
    · exact hn ⟨hrl, gi⟩
    · have h4 := List.pairwise_iff_getElem.1 hr r i hrl hi h3
      have gr : fs.getD r 0 = fs[r] := by simp [List.getD, hrl]
      rw [gr, UInt8.le_iff_toNat_le] at h2
      rw [hfi, UInt8.lt_iff_toNat_lt] at h4
      omega
theorem KidAt.slice {w : World} {ro : Nat → Prop} {b : List UInt8} {v : VT} {k : List RT} {y : Nat} {o : List Nat} {i z : Nat} {oi : List Nat} {g : Nat} (h : KidAt w ro b v k y o i z oi g) : ∃ cap, w.cell? ⟨y, 1, none⟩ = some (.slice (some ⟨g, 0, none⟩) k.length cap) := by
  obtain ⟨a, ca, kv, xs, pre, post, h1, h2, h3, h4, _⟩ := h
  rcases h3.2 with ⟨rfl, _⟩ | ⟨g', cap, cur, rfl, _⟩
  · cases h4
  · cases h4
    exact ⟨cap, cell_in h1 (i := 1) rfl⟩
theorem getD_back (b s : List UInt8) (i : Nat) : (b ++ s).getD (b.length + i) 0 = s.getD i 0 := by
  simp only [List.getD]
  rw [List.getElem?_append_right (by omega), Nat.add_sub_cancel_left]
/-- What find answers. -/
def FindR (w : World) (ro : Nat → Prop) (p n : Nat) (t : RT) (x : Nat) (own : List Nat) (s : List UInt8) (e : Ending) (w' : World) : Prop :=
  Below w.heap.size w w' ∧ ((RT.look t s = none ∧ e = .returned (.tuple #[.pointer none, .slice none 0 0])) ∨
    ∃ v y o s' ab c d K va, RT.look t s = some v ∧ Way w ro p n t x own s (.mk s' v []) y o s' ab c d K ∧ e = .returned (.tuple #[ptrV y, va]) ∧ SliceIs w' w.heap.size 91 va ab.length (ab.map ptrV))
set_option maxHeartbeats 3200000 in
set_option maxRecDepth 100000 in
theorem radFind {w : World} {ro : Nat → Prop} {p n : Nat} {t : RT} {x : Nat} {own : List Nat} (h : RootAt w ro p n t x own) {s : List UInt8} (hw : RT.WF s.length t) (hs : s ≠ []) (hs2 : s.length ≤ 1000) {a : Option Addr} {ca : Nat} (ha : BytesIn w a s ca) :
    Calls Tryd.prog 69 #[ptrV p, .slice a s.length ca] w (FindR w ro p n t x own s) := by
  have HH := Lib.hid h
  have HWf := Lib.hid hw
  have c1 := cell_in h.1 (i := 1) rfl
  obtain ⟨n1, hn1⟩ : ∃ n1, s.length = n1 := ⟨_, rfl⟩
  have HA := Lib.hid (And.intro ha (And.intro hs hn1))
  rw [hn1]
  have hn1000 : n1 ≤ 1000 := by omega
  have HS := Lib.hid hs2
  clear h hw hs hs2 ha hn1
  unfold ptrV at *
  go_enter Tryd.func69, Tryd.ntmps69
  go_wp2_with fail
  go_loopw [1, 4, 5] (fun bv xv av wr => ∃ (n2 : Nat) (a2 : Option Addr) (c2 : Nat) (y m2 : Nat) (a3 : Option Addr) (c3 : Nat), n2 ≤ 1000 ∧ m2 ≤ n1 + 1 ∧ bv = .slice a2 n2 c2 ∧ xv = .pointer (some ⟨y, 0, none⟩) ∧ av = .slice a3 m2 c3 ∧
    Hid (∃ s' u o ab c d K, s'.length = n2 ∧ ab.length = m2 ∧ s' ≠ [] ∧ Way w ro p n t x own s u y o s' ab c d K ∧ BytesIn w a2 s' c2 ∧ SliceIs wr w.heap.size 91 (.slice a3 m2 c3) m2 (ab.map ptrV)) ∧ Hid (Below w.heap.size w wr)) (fun _ _ v _ => n1 + 2 - (match v with | .slice _ n _ => n | _ => 0))
  case atStart => exact ⟨n1, a, ca, x, 0, none, 0, hn1000, by omega, rfl, rfl, rfl, Lib.hid ⟨s, t, own, [], p, 1, id, HA.out.2.2, rfl, HA.out.2.1, .here HH.out, HA.out.1, SliceIs.nil _ _ _⟩, Lib.hid (Below.refl _ _)⟩
  case round =>
    obtain ⟨n2, a2, c2, y, m2, a3, c3, hn2, hm2, rfl, rfl, rfl, hI, hB⟩ := hrel
    obtain ⟨s', ⟨b, v, k⟩, o, ab, c, d, K, hs1, hab, hne, hway, hbi, hsl⟩ := hI.out
    clear hI c1
    obtain ⟨hwf, hlook, _, _, _, hdep, _⟩ := hway.plain HWf.out
    obtain ⟨k1, k2, k3, k4⟩ := hwf.kids
    obtain ⟨aa, cc, kv, xs, rows, hp, ho⟩ := parts_of hway.node
    have hm := HA.out.2.2
    have hpb := hp.2.1.bytes.below hB.out
    have hba := hbi.below hB.out
    obtain ⟨ab', ob', rfl, hcells⟩ := hba.2.resolve_left (fun h => hne (List.eq_nil_of_length_eq_zero h))
    have hq := (hB.out.block y (heap_lt hp.1)).trans hp.1
    have hc2 := hba.1
    have HAl := Lib.hid (alike_any hpb hba (by omega) (by omega))
    have hmlen : b.length ≤ s'.length := k1
    obtain ⟨m1, hm1⟩ : ∃ m1, b.length = m1 := ⟨_, rfl⟩
    rw [hm1, hs1] at HAl
    rw [hm1] at hq
    have q0 := cell_in hq (i := 0) rfl
    have q1 := cell_in hq (i := 1) rfl
    rcases Nat.lt_or_ge (alikeN b s') b.length with hlt | hge
    · have hno : RT.look t s = none := by rw [hlook, RT.look, if_pos hlt]
      have HNo := Lib.hid hno
      obtain ⟨al, hal⟩ : ∃ al, alikeN b s' = al := ⟨_, rfl⟩
      rw [hal] at HAl
      rw [hal, hm1] at hlt
      have e1 := decide_eq_true hlt
      clear hno hlook hwf k1 k2 k3 k4 hp ho hq hcells hway hbi hsl hdep hab hs1 hne hm hm1 hal hlt hmlen hba hpb
      go_wp2_with fail
      refine HAl.out.mono ?_
      rintro e w' ⟨rfl, m, rfl⟩
      go_wp2_with fail
      go_ret2
      exact ⟨belowN hB.out _, .inl ⟨HNo.out, rfl⟩⟩
    · have hal : alikeN b s' = b.length := by have := alikeN_le b s'; omega
      have hpre : s'.take b.length = b := alike_full (by omega)
      obtain ⟨s2, hs2⟩ : ∃ s2, s'.drop b.length = s2 := ⟨_, rfl⟩
      have hsp : s' = b ++ s2 := by rw [← hs2]; conv => lhs; rw [← List.take_append_drop b.length s', hpre]
      obtain ⟨n3, hn3⟩ : ∃ n3, n2 - m1 = n3 := ⟨_, rfl⟩
      have hl2 : s2.length = n3 := by rw [← hs2, List.length_drop]; omega
      rw [hal, hm1] at HAl
      rcases Decidable.em (s2 = []) with h0 | h0
      · have hk : k = [] := Decidable.byContradiction fun h => by
          have := (k3 h).2.2
          rw [hsp, h0] at this; simp at this
        subst hk
        have hb' : b = s' := by rw [hsp, h0, List.append_nil]
        have hF : RT.look t s = some v := by
          rw [hlook, ← hb', RT.look, if_neg (by rw [hb'] at hal ⊢; omega), if_pos (by simp)]
        have HFd := Lib.hid (show ∃ v y' o s' ab c d K va, RT.look t s = some v ∧ Way w ro p n t x own s (.mk s' v []) y' o s' ab c d K ∧ Ending.returned (.tuple #[.pointer (some ⟨y, 0, none⟩), .slice a3 m2 c3]) = .returned (.tuple #[ptrV y', va]) ∧ SliceIs wr w.heap.size 91 va ab.length (ab.map ptrV) from
          ⟨v, y, o, s', ab, c, d, K, _, hF, by rw [hb'] at hway; exact hway, rfl, by rw [hab]; exact hsl⟩)
        have e0 : n3 = 0 := by rw [← hl2, h0]; rfl
        have e3 : ((n3 : Int) == 0) = true := by simp [e0]
        have hle : m1 ≤ n2 := by omega
        clear hF hb' hlook hwf k1 k2 k3 k4 hp ho hq hcells hway hbi hsl hdep hab hs1 hne hm hm1 hal hmlen hba hpb hs2 hsp hl2 hpre hge h0 e0
        go_wp2_with fail
        refine HAl.out.mono ?_
        rintro e w' ⟨rfl, m, rfl⟩
        go_wp2_with fail
        all_goals
          go_ret2
          obtain ⟨v, y', o, s', ab, c, d, K, va, q1, q2, q3, q4⟩ := HFd.out
          exact ⟨belowN hB.out _, .inr ⟨v, y', o, s', ab, c, d, K, va, q1, q2, q3, q4⟩⟩
      · have hk : k ≠ [] := fun h => by
          have := k2 h
          exact h0 (List.eq_nil_of_length_eq_zero (by omega))
        have hn0 : 0 < n3 := by rw [← hl2]; exact List.length_pos_iff.2 h0
        obtain ⟨ch, hch⟩ : ∃ ch, s2.getD 0 0 = ch := ⟨_, rfl⟩
        have hcb : wr.cell? ⟨ab', ob' + m1, none⟩ = some (.int .u8 ch.toNat) := by
          rw [hcells m1 (by omega), ← hch, hsp, ← hm1]
          rw [show b.length = b.length + 0 from rfl, getD_back]
        have hwf2 : WFS s2.length k := by rw [hl2, ← hn3, ← hm1, ← hs1]; exact k4
        have hlk : RT.look t s = lookS k s2 := by rw [hlook, hsp, look_append, if_neg h0]
        have hbi2 : BytesIn w (some ⟨ab', ob' + m1, none⟩) s2 (c2 - m1) := by
          refine ⟨by omega, .inr ⟨ab', ob' + m1, rfl, fun i hi => ?_⟩⟩
          obtain ⟨_, _, e, hc⟩ := hbi.2.resolve_left (by omega)
          cases e
          have := hc (m1 + i) (by omega)
          rw [Nat.add_assoc, this, hsp, ← hm1, getD_back]
        have HSk := fun w' (hb' : Below w.heap.size w w') => radSeek (hway.node.chg (Chg.of_below (fun _ => False) hb') (fun _ _ => id) fun _ _ => id) (fun u hu => (hwf2.mem u hu).1) hwf2.rise (by have := hwf2.few; omega) ch
        have hkid : ∀ r, r < k.length → (k.map RT.first).getD r 0 = ch → ∃ z oi g cap u K', w.cell? ⟨y, 1, none⟩ = some (.slice (some ⟨g, 0, none⟩) k.length cap) ∧ Way w ro p n t x own s u z oi s2 (ab ++ [y]) g r K' := fun r hr hf => by
          rw [hsp] at hway
          obtain ⟨z, oi, g, hk⟩ := kid_of hway.node hr
          obtain ⟨cap, hcap⟩ := hk.slice
          refine ⟨z, oi, g, cap, k[r], _, hcap, .down hway hk (by simp [hr]) h0 ?_⟩
          rw [hch, ← hf]; simp [List.getD, hr]
        have hnone : ∀ r, PlaceB (k.map RT.first) ch r → ¬ (r < k.length ∧ (k.map RT.first).getD r 0 = ch) → RT.look t s = none := fun r hP hn => by
          rw [hlk]
          refine lookS_none fun u hu => ?_
          rw [hch]
          exact (place_no hP hwf2.rise (by simpa using hn) _ (List.mem_map.2 ⟨u, hu, rfl⟩)).symm
        have HSk := Lib.hid HSk
        have HKid := Lib.hid hkid
        have HNone := Lib.hid hnone
        have HSl := Lib.hid hsl
        have HBi := Lib.hid (And.intro hbi2 (And.intro hl2 (And.intro hab h0)))
        have e3 : ((n3 : Int) == 0) = false := by simp; omega
        have hle : m1 < n2 := by omega
        have hcne : ¬ (c2 = m1) := by omega
        have hyw := heap_lt hp.1
        have hbw : ab' < w.heap.size := by
          obtain ⟨_, _, e, hc⟩ := hbi.2.resolve_left (by omega)
          cases e
          exact World.block_lt_of_cell? w _ (hc 0 (by omega))
        have hml : m2 ≤ n1 := by omega
        clear hnone hkid hwf2 hlk hbi2 hl2 hlook hwf k1 k2 k3 k4 hp ho hq hcells hway hbi hsl hdep hab hs1 hne hm hm1 hal hmlen hba hpb hs2 hsp hpre hge h0 hk
        go_wp2_with fail
        refine HAl.out.mono ?_
        rintro e w' ⟨rfl, m, rfl⟩
        obtain ⟨i0, g1, g2, g3, g4⟩ := info_parts info_node
        obtain ⟨va, w2, r2, s3, b2⟩ := run_append_one (P := Tryd.prog) (w := wr.drewN m) (t := 92) (ty := 92) Tryd.underlying92 g1 g2 g3 g4 rfl HSl.out hB.out.size (ptrV y) rfl (by unfold maxLen; omega) (by omega)
        unfold ptrV at r2
        have HR2 := Lib.hid r2
        have hb2 := (belowN hB.out m).trans b2
        obtain ⟨a4, c4, rfl, _⟩ := s3.arg
        have HS3 := Lib.hid (And.intro s3 hb2)
        have hcb2 : w2.cell? ⟨ab', ob' + m1, none⟩ = some (.int .u8 ch.toNat) := (b2.cell (p := ⟨ab', ob' + m1, none⟩) hbw).trans hcb
        clear g1 g2 g3 g4 r2 s3 b2 hb2
        go_wp2_with (at_builtin; refine wpList_append_run rfl rfl HR2.out ?_)
        refine (HSk.out w2 HS3.out.2).mono ?_
        rintro e w3 ⟨r, hP, he, hb3⟩
        have hb23 := HS3.out.2.trans (hb3.mono HS3.out.2.size)
        have HB23 := Lib.hid (And.intro hb23 (HS3.out.1.below hb3))
        rcases Decidable.em (r < k.length ∧ (k.map RT.first).getD r 0 = ch) with hok | hok
        · rw [decide_eq_true hok] at he
          subst he
          obtain ⟨z, oi, g, cap, u, K', hy1, hway⟩ := HKid.out r hok.1 hok.2
          have hg := hway.cell.1
          have y1 : w3.cell? ⟨y, 1, none⟩ = some (.slice (some ⟨g, 0, none⟩) k.length cap) := (hb23.cell (p := ⟨y, 1, none⟩) hyw).trans hy1
          have gz : w3.cell? ⟨g, r, none⟩ = some (.pointer (some ⟨z, 0, none⟩)) := (hb23.cell (p := ⟨g, r, none⟩) (World.block_lt_of_cell? w _ hg)).trans hg
          have hrk := hok.1
          have HN : Hid (∃ s' u o ab c d K, s'.length = n3 ∧ ab.length = m2 + 1 ∧ s' ≠ [] ∧ Way w ro p n t x own s u z o s' ab c d K ∧ BytesIn w (some ⟨ab', ob' + m1, none⟩) s' (c2 - m1) ∧ SliceIs w3 w.heap.size 91 (.slice a4 (m2 + 1) c4) (m2 + 1) (ab.map ptrV)) :=
            Lib.hid ⟨s2, u, oi, ab ++ [y], g, r, _, HBi.out.2.1, by simp [HBi.out.2.2.1], HBi.out.2.2.2, hway, HBi.out.1, by have := HB23.out.2; rw [List.map_append]; exact this⟩
          clear hok hway hg hb23 hb3 hP hcb2 hcb hy1
          go_wp2_with fail
          go_roundw
          case rel => exact ⟨n3, some ⟨ab', ob' + m1, none⟩, c2 - m1, z, m2 + 1, a4, c4, by omega, by omega, rfl, rfl, rfl, HN, Lib.hid HB23.out.1⟩
          case measure => simp; omega
        · have hno := HNone.out r hP hok
          have HNo := Lib.hid hno
          rw [decide_eq_false hok] at he
          subst he
          clear hno hok hP hb23 hb3 hcb2 hcb
          go_wp2_with fail
          go_ret2
          exact ⟨HB23.out.1, .inl ⟨HNo.out, rfl⟩⟩
end Go.Proofs.YtbjpfnafhhbmaaaDoor.Sad

/- radix: whole trees; Get. -/
namespace Go.Proofs.YtbjpfnafhhbmaaaDoor.Sad
open Go.Proofs.YtbjpfnafhhbmaaaDoor
set_option linter.unusedVariables false
set_option linter.unusedSimpArgs false
open Go.RowKit RT
/-- Tree p, in blocks of G, has the things T; it counts n of them. -/
def TreeF (w : World) (p : Nat) (G : Nat → Prop) (T : Option RT) (n : Nat) : Prop :=
  (∀ k, G k → k < w.heap.size) ∧ match T with
  | none => w.heap[p]? = some (.cells #[.bool true, .pointer none, .int .i64 n] 99 (0, 0)) ∧ G p
  | some t => WF 16 t ∧ ∃ ro x own, RootAt w ro p n t x own ∧ ∀ k, k = p ∨ k ∈ own ∨ ro k → G k
def lookO (T : Option RT) (s : List UInt8) : Option VT := T.bind fun t => RT.look t s
def putO (T : Option RT) (s : List UInt8) (v : VT) : Option RT := some (match T with
  | none => .mk s v []
  | some t => RT.put t s v)
def delO (T : Option RT) (s : List UInt8) : Option RT := T.bind fun t => if t.kids.isEmpty then none else some (RT.del t s)
theorem RootAt.chg {w w' : World} {ro : Nat → Prop} {p n : Nat} {t : RT} {x : Nat} {own : List Nat} (h : RootAt w ro p n t x own) {S : Nat → Prop} (hc : Chg S w w') (hr : ∀ k, ro k → ¬ S k) (hd : ∀ k ∈ p :: own, ¬ S k) : RootAt w' ro p n t x own :=
  ⟨hc.keep h.1 (hd p (by simp)), h.2.1.chg hc hr fun k hk => hd k (by simp [hk]), h.2.2.1, fun k hk => ⟨(h.2.2.2 k hk).1, Nat.lt_of_lt_of_le (h.2.2.2 k hk).2 hc.size⟩⟩
theorem TreeF.chg {w w' : World} {p : Nat} {G : Nat → Prop} {T : Option RT} {n : Nat} (h : TreeF w p G T n) {S : Nat → Prop} (hc : Chg S w w') (hd : ∀ k, G k → ¬ S k) : TreeF w' p G T n := by
  refine ⟨fun k hk => Nat.lt_of_lt_of_le (h.1 k hk) hc.size, ?_⟩
  cases T with
  | none => exact ⟨hc.keep h.2.1 (hd p h.2.2), h.2.2⟩
  | some t =>
    obtain ⟨_, hw, ro, x, own, h1, h2⟩ := h
    exact ⟨hw, ro, x, own, h1.chg hc (fun k hk => hd k (h2 k (.inr (.inr hk)))) fun k hk => hd k (h2 k ((List.mem_cons.1 hk).imp id .inl)), h2⟩
theorem TreeF.below {w w' : World} {p : Nat} {G : Nat → Prop} {T : Option RT} {n : Nat} (h : TreeF w p G T n) (hb : Below w.heap.size w w') : TreeF w' p G T n := h.chg (Chg.of_below (fun _ => False) hb) fun _ _ => id
theorem TreeF.head {w : World} {p : Nat} {G : Nat → Prop} {T : Option RT} {n : Nat} (h : TreeF w p G T n) : ∃ v, w.heap[p]? = some (.cells #[.bool true, v, .int .i64 n] 99 (0, 0)) ∧ (T = none → v = .pointer none) ∧ (T ≠ none → ∃ x, v = ptrV x) ∧ G p := by
  cases T with
  | none => exact ⟨_, h.2.1, fun _ => rfl, fun h => absurd rfl h, h.2.2⟩
  | some t =>
    obtain ⟨_, hw, ro, x, own, h1, h2⟩ := h
    exact ⟨_, h1.1, fun h => (by cases h), fun _ => ⟨x, rfl⟩, h2 p (.inl rfl)⟩
theorem slice_bytes {w : World} {B : Nat} {v : Value} {n : Nat} {xs : List UInt8} (h : SliceIs w B 5 v n (xs.map u8v)) : ∃ a ca, v = .slice a n ca ∧ BytesIn w a xs ca := by
  have hl : xs.length = n := by have := h.1; simpa using this
  rcases h.2 with ⟨rfl, rfl⟩ | ⟨g, cap, cur, rfl, _, h3, h4, h5, _, h7⟩
  · exact ⟨none, 0, rfl, by omega, .inl hl⟩
  · refine ⟨_, cap, rfl, by omega, .inr ⟨g, 0, rfl, fun i hi => h3.cell ?_⟩⟩
    have e := congrArg (fun l => l[i]?) h7
    simp only [List.getElem?_take_of_lt (show i < n by omega), Array.getElem?_toList] at e
    rw [Nat.zero_add, e]
    simp [List.getD, hi]
/-- What find answers over whole trees. -/
def FindF (w : World) (p : Nat) (G : Nat → Prop) (T : Option RT) (n : Nat) (s : List UInt8) (e : Ending) (w' : World) : Prop :=
  Below w.heap.size w w' ∧ ((lookO T s = none ∧ e = .returned (.tuple #[.pointer none, .slice none 0 0])) ∨
    ∃ ro t x own v y o s' ab c d K va, T = some t ∧ WF 16 t ∧ (∀ k, k = p ∨ k ∈ own ∨ ro k → G k) ∧ RT.look t s = some v ∧ Way w ro p n t x own s (.mk s' v []) y o s' ab c d K ∧ e = .returned (.tuple #[.pointer (some ⟨y, 0, none⟩), va]) ∧ SliceIs w' w.heap.size 91 va ab.length (ab.map ptrV))
set_option maxHeartbeats 800000 in
set_option maxRecDepth 100000 in
theorem radFindF {w : World} {p : Nat} {G : Nat → Prop} {T : Option RT} {n : Nat} (h : TreeF w p G T n) {s : List UInt8} (hs : s.length = 16) {a : Option Addr} {ca : Nat} (ha : BytesIn w a s ca) :
    Calls Tryd.prog 69 #[ptrV p, .slice a 16 ca] w (FindF w p G T n s) := by
  cases T with
  | none =>
    have c1 := cell_in h.2.1 (i := 1) rfl
    clear h ha
    unfold ptrV
    go_enter Tryd.func69, Tryd.ntmps69
    go_wp2_with fail
    go_loopw [4] (fun x wr => x = .pointer none ∧ w = wr) (fun _ _ => 0)
    case atStart => exact ⟨rfl, rfl⟩
    case round =>
      obtain ⟨rfl, rfl⟩ := hrel
      go_wp2_with fail
      go_ret2
      exact ⟨Below.refl _ _, .inl ⟨rfl, rfl⟩⟩
  | some t =>
    obtain ⟨_, hw, ro, x, own, h1, h2⟩ := h
    have := radFind h1 (s := s) (by rw [hs]; exact hw) (fun e => by rw [e] at hs; simp at hs) (by omega) ha
    rw [hs] at this
    refine this.mono ?_
    rintro e w' ⟨hb, hc⟩
    refine ⟨hb, hc.imp (fun h => h) ?_⟩
    rintro ⟨v, y, o, s', ab, c, d, K, va, q1, q2, q3, q4⟩
    exact ⟨ro, t, x, own, v, y, o, s', ab, c, d, K, va, rfl, hw, h2, q1, q2, q3, q4⟩
theorem leaf_cell {w : World} {ro : Nat → Prop} {b : List UInt8} {v : VT} {k : List RT} {x : Nat} {own : List Nat} (h : NodeAt w ro (.mk b v k) x own) : w.cell? ⟨x, 2, none⟩ = some (vC v) ∧ x < w.heap.size := by
  obtain ⟨a, ca, kv, xs, rows, hp, _⟩ := parts_of h
  exact ⟨cell_in hp.1 (i := 2) rfl, heap_lt hp.1⟩
end Go.Proofs.YtbjpfnafhhbmaaaDoor.Sad

/- radix: what a change leaves, in one word. -/
namespace Go.Proofs.YtbjpfnafhhbmaaaDoor.Sad
open Go.Proofs.YtbjpfnafhhbmaaaDoor
set_option linter.unusedVariables false
set_option linter.unusedSimpArgs false
open Go.RowKit RT
theorem free_at {w : World} {c d : Nat} {cs : Array Value} {E : TypeId} {fz : Nat × Nat} (h : w.heap[c]? = some (.cells cs E fz)) (hf : ¬ (fz.1 ≤ d ∧ d < fz.2)) : w.frozen? ⟨c, d, none⟩ = false := by
  obtain ⟨lo, hi⟩ := fz
  simp only [World.frozen?, h, Bool.and_eq_false_iff, decide_eq_false_iff_not]
  by_cases h1 : lo ≤ d
  · exact .inr fun h2 => hf ⟨h1, h2⟩
  · exact .inl h1
/-- A tree that a change has left: its blocks are old ones or new ones. -/
theorem Way.done {w : World} {ro : Nat → Prop} {p n : Nat} {t : RT} {x : Nat} {own : List Nat} {s : List UInt8} {u : RT} {y : Nat} {o : List Nat} {s' : List UInt8} {ab : List Nat} {c d : Nat} {K : RT → RT}
    (h : Way w ro p n t x own s u y o s' ab c d K) {w0 w' : World} {G : Nat → Prop} {u' : RT} {y' : Nat} {o' : List Nat} (hGp : G p) (hGo : ∀ k ∈ own, G k) (hGr : ∀ k, ro k → (G k ∨ w0.heap.size ≤ k) ∧ k < w.heap.size) (hGl : ∀ k, G k → k < w0.heap.size) (h0 : Chg G w0 w)
    (hc : Chg (fun k => k ∈ o ∨ k = c) w w') (hs : SetAt w w' c d (ptrV y')) (hn : NodeAt w' ro u' y' o') (hd : o'.Nodup) (ho : ∀ k ∈ o', (k ∈ o ∨ w.heap.size ≤ k) ∧ k < w'.heap.size) (hw : WF 16 (K u')) :
    ∃ G', TreeF w' p G' (some (K u')) n ∧ Fresh w0 G G' ∧ Chg G w0 w' := by
  have hsub := h.sub
  have hroot := h.root
  obtain ⟨x', own', h1, h2⟩ := h.back hc hs hn (fun _ => id) (fun _ => .inl) hd fun k hk => ⟨(ho k hk).1, fun hr => by
    rcases (ho k hk).1 with hk' | hk'
    · exact (hroot.2.2.2 k (by simp [hsub.1 k hk'])).1 hr
    · have := (hGr k hr).2; omega, (ho k hk).2⟩
  have hsz := h0.size
  refine ⟨fun k => (G k ∨ w0.heap.size ≤ k) ∧ k < w'.heap.size, ⟨fun k hk => hk.2, hw, ro, x', own', h1, ?_⟩, fun k hk => hk.1, h0.trans hc ?_⟩
  · rintro k (rfl | hk | hk)
    · exact ⟨.inl hGp, (h1.2.2.2 k (by simp)).2⟩
    · refine ⟨?_, (h1.2.2.2 k (by simp [hk])).2⟩
      rcases h2 k hk with hk | hk
      · exact .inl (hGo k hk)
      · exact .inr (by omega)
    · exact ⟨(hGr k hk).1, Nat.lt_of_lt_of_le (hGr k hk).2 hc.size⟩
  · rintro k (hk | rfl) _
    · exact hGo k (hsub.1 k hk)
    · rcases List.mem_cons.1 hsub.2.2.2 with rfl | hk
      · exact hGp
      · exact hGo k hk
theorem SetAt.same {w w' : World} {c d : Nat} {S : Nat → Prop} {v : Value} (hc : Chg S w w') (hS : ¬ S c) (hv : w.cell? ⟨c, d, none⟩ = some v) : SetAt w w' c d v := by
  intro cs E fz hcs
  have hv' : cs[d]? = some v := by simpa [World.cell?, hcs] using hv
  have e : cs.setIfInBounds d v = cs := by
    apply Array.ext_getElem?
    intro j
    rw [Array.getElem?_setIfInBounds]
    split
    · next hj =>
      subst hj
      rw [hv']
      split
      · rfl
      · next hj2 => rw [Array.getElem?_eq_none (by omega)] at hv'; cases hv'
    · rfl
  rw [e]
  exact hc.keep hcs hS
/-- Nodes below one, and one more among them. -/
theorem NodesAt.ins {w : World} {ro : Nat → Prop} {u : RT} {z : Nat} {oz : List Nat} (hu : NodeAt w ro u z oz) : ∀ {l : List RT} {xs own : List Nat}, NodesAt w ro l xs own → ∀ r, ∃ pre post, own = pre ++ post ∧ NodesAt w ro (l.take r ++ u :: l.drop r) (xs.take r ++ z :: xs.drop r) (pre ++ (oz ++ post))
  | l, xs, own, h, 0 => by
    refine ⟨[], own, rfl, ?_⟩
    simp only [List.take_zero, List.nil_append, List.drop_zero]
    rw [NodesAt]
    exact ⟨z, xs, oz, own, rfl, hu, h, rfl⟩
  | [], xs, own, h, r + 1 => by
    rw [NodesAt] at h
    obtain ⟨rfl, rfl⟩ := h
    refine ⟨[], [], rfl, ?_⟩
    simp only [List.take_nil, List.drop_nil, List.nil_append, List.append_nil]
    rw [NodesAt]
    exact ⟨z, [], oz, [], rfl, hu, by rw [NodesAt]; exact ⟨rfl, rfl⟩, by simp⟩
  | t :: l, xs, own, h, r + 1 => by
    rw [NodesAt] at h
    obtain ⟨x, ys, o1, o2, rfl, h2, h3, rfl⟩ := h
    obtain ⟨pre, post, rfl, h4⟩ := NodesAt.ins hu h3 r
    refine ⟨o1 ++ pre, post, by simp, ?_⟩
    simp only [List.take_succ_cons, List.drop_succ_cons, List.cons_append]
    rw [NodesAt]
    exact ⟨x, _, o1, _, rfl, h2, h4, by simp⟩
theorem RT.putS_ins {s : List UInt8} (v : Value) (x : VT) : ∀ {l : List RT} {r : Nat}, PlaceB (l.map RT.first) (s.getD 0 0) r → (∀ u ∈ l, u.first ≠ s.getD 0 0) → putS l s x = l.take r ++ RT.mk s x [] :: l.drop r
  | [], r, h, _ => by
    rw [putS]; simp
  | t :: l, 0, h, hn => by
    have h1 := h.2.2 0 (Nat.le_refl _) (by simp)
    simp only [List.map_cons, List.getD_cons_zero] at h1
    have h2 := hn t (by simp)
    rw [putS, if_neg h2, if_pos (lt_of_le_ne h1 fun e => h2 e.symm)]
    rfl
  | t :: l, r + 1, h, hn => by
    have h1 := h.2.1 0 (by omega)
    simp only [List.map_cons, List.getD_cons_zero] at h1
    have ih := RT.putS_ins v x (l := l) (r := r) ⟨by have := h.1; simpa using this, fun i hi => by have := h.2.1 (i + 1) (by omega); simpa using this, fun i h3 h4 => by have := h.2.2 (i + 1) (by omega) (by simpa using h4); simpa using this⟩ fun u hu => hn u (by simp [hu])
    rw [putS, if_neg (hn t (by simp)), if_neg (RT.not_lt_of_lt h1), ih]
    rfl
theorem RT.addK_one {t u : RT} {r : Nat} (h : PlaceB ([t].map RT.first) u.first r) (hn : t.first ≠ u.first) : addK [t] u = [t].take r ++ u :: [t].drop r := by
  unfold addK
  have hr : r ≤ 1 := by have := h.1; simpa using this
  rcases (show r = 0 ∨ r = 1 by omega) with rfl | rfl
  · have := h.2.2 0 (by omega) (by simp)
    simp only [List.map_cons, List.getD_cons_zero] at this
    rw [if_pos this]; rfl
  · have := h.2.1 0 (by omega)
    simp only [List.map_cons, List.getD_cons_zero] at this
    rw [if_neg (fun h' => by rw [UInt8.le_iff_toNat_le] at h'; rw [UInt8.lt_iff_toNat_lt] at this; omega)]
    rfl
theorem RootAt.more {w : World} {ro ro' : Nat → Prop} {p n : Nat} {t : RT} {x : Nat} {own : List Nat} (h : RootAt w ro p n t x own) (hr : ∀ k, ro k → ro' k) (hn : ∀ k ∈ p :: own, ¬ ro' k) : RootAt w ro' p n t x own :=
  ⟨h.1, h.2.1.ro hr, h.2.2.1, fun k hk => ⟨hn k hk, (h.2.2.2 k hk).2⟩⟩
theorem Parts.below {w w' : World} {ro : Nat → Prop} {b : List UInt8} {v : VT} {k : List RT} {x : Nat} {a : Option Addr} {ca : Nat} {kv : Value} {xs rows : List Nat} (h : Parts w ro b v k x a ca kv xs rows) (hb : Below w.heap.size w w') : Parts w' ro b v k x a ca kv xs rows := by
  have hc := Chg.of_below (fun _ => False) hb
  exact ⟨hc.keep h.1 id, h.2.1.chg hc fun _ _ => id, h.2.2.1.chg hc fun _ _ => id, NodesAt.chg hc (fun _ _ => id) h.2.2.2 fun _ _ => id⟩
end Go.Proofs.YtbjpfnafhhbmaaaDoor.Sad
