/- Lemmas and walks for ListPlays, part 1 of 5: the texts Base, Str, Pck1, Pck2, Shelf, Slc, Args, Loc, Reg, Com, Dec0, Pck3, Pck4, Apd, Pck5, Oct, Pck6, Pck7, Pck8, Pck9, Pck10, Pck11. -/
import Derived.WalkKit
import Derived.Deep.Draws
import Derived.Laws.BytesString
import Derived.Laws.AppendOwn
import Derived.Lib.ParseIntB
import Derived.Lib.ItoaNum
import Derived.Shelf.Strconv.Itoa0
import Derived.Shelf.Strconv.Itoa1
import Derived.Shelf.LaysM
import Derived.Shelf.Strconv.Itoa2
import Derived.Shelf.Strconv.Itoa3
import Derived.Shelf.Strconv.Itoa4
import Derived.Shelf.Strconv.ParseIntEmpty
import Derived.Shelf.Strconv.Clone
import Derived.Shelf.Strconv.SyntaxError
import Derived.Shelf.LaysC
import Derived.Shelf.Strconv.ToError
import Derived.Shelf.Strconv.Lower
import Derived.Shelf.Strconv.ParseUint10
import Derived.Shelf.Strconv.ParseUint10Empty
import Derived.Shelf.Strconv.ParseUint10Any
import Derived.Shelf.Strconv.ParseInt10
import Derived.Shelf.Strconv.RangeError
import Derived.Shelf.Strconv.ToErrorRange
import Derived.Shelf.Strconv.ParseUintEmpty
import Derived.Shelf.Strconv.ParseUint10b64
import Derived.Shelf.Strconv.ParseUint10At
import Derived.Shelf.Strconv.ParseInt10At64
import Derived.Shelf.Strconv.ParseInt10All
import Derived.Shelf.Strconv.ParseIntPublic10
import Derived.Shelf.Strconv.ErrVarParseInt
import Derived.Test.YtlecnlnpgghmbaaGreatDoorProg
import Derived.Laws.CopyRow
import Derived.IntWalk
import Derived.Laws.MakeOwn
import Derived.OpenShut
import Derived.Deep.Slices
import Derived.Deep.SlicePairs
import Derived.SliceStrings
import Derived.ChangeArms
import Derived.ChangeSlices
import Derived.Laws.Cover2
import Derived.Still
import Derived.Deep.Quiet
import Derived.BigQuiet
import Derived.Test.YtlecnlnpgghmbaaGreatDoorRows
import Derived.Lib.AppendIntMem
import Derived.Lib.ItoaWalk
import Derived.Laws.BitsAllLaws
import Derived.Laws.Bits128
import Derived.Deep.Cut
import Derived.Lib.AppendStr
import Derived.WalkSpells
import Derived.WalkLawsBesides
import Derived.Lib.Hide
import Derived.Lib.SliceRun
namespace Go.Proofs.YtlecnlnpgghmbaaGreatDoor
set_option linter.unusedVariables false
set_option linter.unusedSimpArgs false
open Go.RowKit
/-- The number whose bytes these are, the lowest first. -/
def lowN : List UInt8 → Nat
  | [] => 0
  | c :: l => c.toNat + 256 * lowN l
theorem lowN_lt : ∀ (l : List UInt8), lowN l < 256 ^ l.length
  | [] => by simp [lowN]
  | c :: l => by
    have := lowN_lt l
    have hc := c.toNat_lt
    simp only [lowN, List.length_cons, Nat.pow_succ]
    omega
theorem lowN_lt64 (l : List UInt8) (h : l.length ≤ 8) : lowN l < 18446744073709551616 := by
  have h1 := lowN_lt l
  have h2 : 256 ^ l.length ≤ 256 ^ 8 := Nat.pow_le_pow_right (by omega) h
  have h3 : (256 : Nat) ^ 8 = 18446744073709551616 := by decide
  omega
theorem lowN_drop (l : List UInt8) (i : Nat) (h : i < l.length) : lowN (l.drop i) = l[i].toNat + 256 * lowN (l.drop (i + 1)) := by
  rw [List.drop_eq_getElem_cons h]
  rfl
theorem u64_or_low (n c : Nat) (hc : c < 256) (h : 256 * n + c < 18446744073709551616) : bits .or .u64 ((n * 256 : Nat) : Int) (c : Int) = ((c + 256 * n : Nat) : Int) := by
  rw [u64_or_nat _ _ (by omega) (by omega)]
  have := Nat.shiftLeft_add_eq_or_of_lt (i := 8) (b := c) (by simpa using hc) n
  rw [Nat.shiftLeft_eq] at this
  simp only [Nat.reducePow] at this
  rw [← this]; congr 1; omega

/-- A number's bytes, the lowest first, in so many. -/
def leN : Nat → Nat → List UInt8
  | 0, _ => []
  | k + 1, n => UInt8.ofNat n :: leN k (n / 256)
@[simp] theorem leN_length : ∀ k n, (leN k n).length = k
  | 0, _ => rfl
  | k + 1, n => by simp [leN, leN_length k]
theorem leN_get : ∀ (k n i : Nat) (h : i < (leN k n).length), (leN k n)[i].toNat = n / 256 ^ i % 256
  | 0, n, i, h => by simp [leN] at h
  | k + 1, n, 0, h => by simp [leN, UInt8.toNat_ofNat']
  | k + 1, n, i + 1, h => by
    simp only [leN, List.getElem_cons_succ]
    rw [leN_get k (n / 256) i (by simpa [leN] using h), Nat.div_div_eq_div_mul, Nat.pow_succ, Nat.mul_comm 256]
theorem lowN_leN : ∀ k n, lowN (leN k n) = n % 256 ^ k
  | 0, n => by simp [leN, lowN, Nat.mod_one]
  | k + 1, n => by
    simp only [leN, lowN, lowN_leN k, UInt8.toNat_ofNat', Nat.reducePow]
    rw [Nat.pow_succ, Nat.mul_comm _ 256, Nat.mod_mul]
theorem leN_lowN : ∀ (l : List UInt8), leN l.length (lowN l) = l
  | [] => rfl
  | c :: l => by
    have hc := c.toNat_lt
    simp only [List.length_cons, leN, lowN]
    rw [show (c.toNat + 256 * lowN l) / 256 = lowN l by omega, leN_lowN l]
    congr 1
    apply UInt8.toNat.inj
    simp
/-- Values stored over a row, from a place on. -/
def wrs (cs : Array Value) : Nat → List Value → Array Value
  | _, [] => cs
  | o, v :: l => wrs (cs.setIfInBounds o v) (o + 1) l
@[simp] theorem wrs_size : ∀ (l : List Value) (cs : Array Value) (o : Nat), (wrs cs o l).size = cs.size
  | [], _, _ => rfl
  | v :: l, cs, o => by simp [wrs, wrs_size l]
theorem wrs_get : ∀ (l : List Value) (cs : Array Value) (o i : Nat),
    (wrs cs o l)[i]? = if o ≤ i ∧ i < o + l.length ∧ i < cs.size then l[i - o]? else cs[i]?
  | [], cs, o, i => by simp [wrs]; omega
  | v :: l, cs, o, i => by
    simp only [wrs, wrs_get l, Array.size_setIfInBounds, List.length_cons, Array.getElem?_setIfInBounds]
    by_cases h1 : o = i
    · subst h1
      by_cases h2 : o < cs.size
      · rw [if_neg (by omega), if_pos rfl, if_pos h2, if_pos (by omega)]; simp
      · rw [if_neg (by omega), if_pos rfl, if_neg h2, if_neg (by omega)]; simp [Array.getElem?_eq_none (by omega : cs.size ≤ o)]
    · by_cases h2 : o + 1 ≤ i ∧ i < o + 1 + l.length ∧ i < cs.size
      · rw [if_pos h2, if_pos (by omega)]
        rw [show i - o = (i - (o + 1)) + 1 by omega]; simp
      · rw [if_neg h2, if_neg h1, if_neg (by omega)]
theorem wrs_snoc : ∀ (l : List Value) (cs : Array Value) (o : Nat) (v : Value), wrs cs o (l ++ [v]) = (wrs cs o l).setIfInBounds (o + l.length) v
  | [], cs, o, v => rfl
  | x :: l, cs, o, v => by
    simp only [List.cons_append, wrs, wrs_snoc l, List.length_cons]
    congr 1; omega
/-- Bytes as cells. -/
abbrev u8v (c : UInt8) : Value := .int .u8 c.toNat
theorem leN_snoc : ∀ (k n : Nat), leN (k + 1) n = leN k n ++ [UInt8.ofNat (n / 256 ^ k)]
  | 0, n => by simp [leN]
  | k + 1, n => by
    show UInt8.ofNat n :: leN (k + 1) (n / 256) = (UInt8.ofNat n :: leN k (n / 256)) ++ [_]
    rw [leN_snoc k (n / 256), Nat.div_div_eq_div_mul, Nat.pow_succ, Nat.mul_comm 256]; rfl
theorem cell_in {w : World} {b : Nat} {cs : Array Value} {E : TypeId} {fz : Nat × Nat} (h : w.heap[b]? = some (.cells cs E fz)) {i : Nat} {v : Value} (hv : cs[i]? = some v) : w.cell? ⟨b, i, none⟩ = some v := by
  simp [World.cell?, h, hv]
theorem frozen_in {w : World} {b : Nat} {cs : Array Value} {E : TypeId} (h : w.heap[b]? = some (.cells cs E (0, 0))) (i : Nat) : w.frozen? ⟨b, i, none⟩ = false := by
  simp [World.frozen?, h]
theorem heap_setRow {w : World} {b : Nat} {cs : Array Value} {E : TypeId} {fz : Nat × Nat} (h : w.heap[b]? = some (.cells cs E fz)) (cs' : Array Value) : (w.setRow b cs').heap[b]? = some (.cells cs' E fz) := setRow_heap w b cs cs' E fz h
theorem setRow_eq {w : World} {b : Nat} {cs : Array Value} {E : TypeId} {fz : Nat × Nat} (h : w.heap[b]? = some (.cells cs E fz)) : w.setRow b cs = w := setRow_self w b cs E fz h
theorem setRow_setCell {w : World} {b : Nat} {cs : Array Value} {E : TypeId} {fz : Nat × Nat} (h : w.heap[b]? = some (.cells cs E fz)) (cs' : Array Value) (i : Nat) (v : Value) :
    (w.setRow b cs').setCell ⟨b, i, none⟩ v = w.setRow b (cs'.setIfInBounds i v) := by
  rw [setCell_eq_setRow _ b i cs' E fz v (heap_setRow h cs'), setRow_setRow]
theorem ret1 {a b : Value} (h : a = b) : Ending.returned a = Ending.returned b := by rw [h]
theorem belowN {B : Nat} {a w : World} (h : Below B a w) (n : Nat) : Below B a (w.drewN n) := h.trans ⟨rfl, rfl, rfl, Nat.le_refl _, fun _ _ => rfl⟩
/-- What a call did: it may have changed the blocks of S, and made new ones; all else is as it was. -/
structure Chg (S : Nat → Prop) (w w' : World) : Prop where
  os : w'.os = w.os
  tape : w'.tape = w.tape
  output : w'.output = w.output
  size : w.heap.size ≤ w'.heap.size
  block : ∀ k, k < w.heap.size → ¬ S k → w'.heap[k]? = w.heap[k]?
theorem Chg.refl (S : Nat → Prop) (w : World) : Chg S w w := ⟨rfl, rfl, rfl, Nat.le_refl _, fun _ _ _ => rfl⟩
theorem Chg.trans {S S' : Nat → Prop} {a b c : World} (h : Chg S a b) (k : Chg S' b c) (hs : ∀ i, S' i → i < a.heap.size → S i) : Chg S a c :=
  ⟨k.os.trans h.os, k.tape.trans h.tape, k.output.trans h.output, Nat.le_trans h.size k.size, fun i hi hn => (k.block i (Nat.lt_of_lt_of_le hi h.size) (fun h' => hn (hs i h' hi))).trans (h.block i hi hn)⟩
theorem Chg.mono {S S' : Nat → Prop} {a b : World} (h : Chg S a b) (hs : ∀ i, S i → i < a.heap.size → S' i) : Chg S' a b :=
  ⟨h.os, h.tape, h.output, h.size, fun i hi hn => h.block i hi (fun h' => hn (hs i h' hi))⟩
theorem Chg.drewN (S : Nat → Prop) (w : World) (n : Nat) : Chg S w (w.drewN n) := ⟨rfl, rfl, rfl, Nat.le_refl _, fun _ _ _ => rfl⟩
theorem Chg.drew (S : Nat → Prop) (w : World) : Chg S w w.drew := ⟨rfl, rfl, rfl, Nat.le_refl _, fun _ _ _ => rfl⟩
theorem Chg.alloc (S : Nat → Prop) (w : World) (o : Obj) : Chg S w (w.alloc o) := ⟨rfl, rfl, rfl, by simp, fun k hk _ => Below.heap_alloc _ _ _ hk⟩
theorem Chg.setRow (S : Nat → Prop) (w : World) (g : Nat) (cs : Array Value) (h : S g) : Chg S w (w.setRow g cs) :=
  ⟨rfl, rfl, rfl, by simp, fun k _ hn => setRow_other w g k cs (fun e => hn (e ▸ h))⟩
theorem Chg.setCell (S : Nat → Prop) (w : World) (a : Addr) (v : Value) (h : S a.block) : Chg S w (w.setCell a v) :=
  ⟨rfl, rfl, rfl, by simp [World.setCell], fun k _ hn => Below.heap_setCell _ _ _ _ (fun e => hn (e ▸ h))⟩
theorem Chg.of_below {w w' : World} (S : Nat → Prop) (h : Below w.heap.size w w') : Chg S w w' := ⟨h.os, h.tape, h.output, h.size, fun k hk _ => h.block k hk⟩
theorem Chg.of_grown {w w' : World} {row : Option Nat} (S : Nat → Prop) (h : w.grownBy w' row) (hr : ∀ k, row = some k → S k) : Chg S w w' :=
  ⟨h.os, h.tape, h.output, h.size, fun k hk hn => h.block k hk (fun e => hn (hr k e.symm))⟩
theorem belowChg {B : Nat} {S : Nat → Prop} {a w w' : World} (h : Below B a w) (hc : Chg S w w') (hB : B ≤ w.heap.size) (hs : ∀ k, S k → k < w.heap.size → B ≤ k) : Below B a w' :=
  h.trans ⟨hc.os, hc.tape, hc.output, hc.size, fun k hk => hc.block k (by omega) (fun h' => by have := hs k h' (by omega); omega)⟩
theorem Chg.keep {S : Nat → Prop} {w w' : World} (h : Chg S w w') {k : Nat} {o : Obj} (hk : w.heap[k]? = some o) (hn : ¬ S k) : w'.heap[k]? = some o := by
  rw [h.block k (Array.getElem?_eq_some_iff.1 hk).1 hn]; exact hk
theorem heap_lt {w : World} {k : Nat} {o : Obj} (hk : w.heap[k]? = some o) : k < w.heap.size := (Array.getElem?_eq_some_iff.1 hk).1
theorem heap_new (w : World) (o : Obj) : (w.alloc o).heap[w.heap.size]? = some o := heap_alloc_new w o
theorem heap_old {w : World} {k : Nat} {o : Obj} (hk : w.heap[k]? = some o) (o' : Obj) : (w.alloc o').heap[k]? = some o := by
  rw [Below.heap_alloc _ _ _ (heap_lt hk)]; exact hk
theorem wrs_list : ∀ (b' b a c : List Value), b'.length = b.length → wrs (a ++ (b ++ c)).toArray a.length b' = (a ++ (b' ++ c)).toArray
  | [], [], a, c, _ => rfl
  | x :: b', y :: b, a, c, h => by
    simp only [wrs]
    have h1 : (a ++ (y :: b ++ c)).toArray.setIfInBounds a.length x = ((a ++ [x]) ++ (b ++ c)).toArray := by simp
    rw [h1, show a.length + 1 = (a ++ [x]).length by simp, wrs_list b' b (a ++ [x]) c (by simpa using h)]
    simp
  | [], _ :: _, _, _, h => by simp at h
  | _ :: _, [], _, _, h => by simp at h
/-- A row whose cells are known, none of them frozen. (What '[]byte(s)' makes bears a mark behind its last cell.) -/
def RowAt (w : World) (g : Nat) (e : TypeId) (cur : Array Value) : Prop := ∃ fz : Nat × Nat, (∀ i, i < cur.size → ¬ (fz.1 ≤ i ∧ i < fz.2)) ∧ w.heap[g]? = some (.cells cur e fz)
theorem RowAt.of {w : World} {g : Nat} {e : TypeId} {cur : Array Value} (h : w.heap[g]? = some (.cells cur e (0, 0))) : RowAt w g e cur := ⟨(0, 0), fun i _ => by simp, h⟩
section
variable {w : World} {g : Nat} {e : TypeId} {cur : Array Value}
theorem RowAt.cell (h : RowAt w g e cur) {i : Nat} {v : Value} (hv : cur[i]? = some v) : w.cell? ⟨g, i, none⟩ = some v := by
  obtain ⟨fz, _, hh⟩ := h
  exact cell_in hh hv
theorem RowAt.free (h : RowAt w g e cur) {i : Nat} (hi : i < cur.size) : w.frozen? ⟨g, i, none⟩ = false := by
  obtain ⟨⟨lo, hi'⟩, hf, hh⟩ := h
  have := hf i hi
  simp only [World.frozen?, hh, Bool.and_eq_false_iff, decide_eq_false_iff_not]
  by_cases h1 : lo ≤ i
  · exact .inr fun h2 => this ⟨h1, h2⟩
  · exact .inl h1
theorem RowAt.lt (h : RowAt w g e cur) : g < w.heap.size := by
  obtain ⟨fz, _, hh⟩ := h
  exact heap_lt hh
theorem RowAt.keep (h : RowAt w g e cur) {S : Nat → Prop} {w' : World} (hc : Chg S w w') (hn : ¬ S g) : RowAt w' g e cur := by
  obtain ⟨fz, hf, hh⟩ := h
  exact ⟨fz, hf, hc.keep hh hn⟩
theorem RowAt.setRow (h : RowAt w g e cur) {cs : Array Value} (hs : cs.size = cur.size) : RowAt (w.setRow g cs) g e cs := by
  obtain ⟨fz, hf, hh⟩ := h
  exact ⟨fz, by rw [hs]; exact hf, heap_setRow hh cs⟩
theorem RowAt.other (h : RowAt w g e cur) {k : Nat} (cs : Array Value) (hk : g ≠ k) : RowAt (w.setRow k cs) g e cur := by
  obtain ⟨fz, hf, hh⟩ := h
  exact ⟨fz, hf, by rw [setRow_other _ _ _ _ hk]; exact hh⟩
theorem RowAt.drewN (h : RowAt w g e cur) (n : Nat) : RowAt (w.drewN n) g e cur := h
theorem RowAt.setSame (h : RowAt w g e cur) : w.setRow g cur = w := by
  obtain ⟨fz, hf, hh⟩ := h
  exact setRow_eq hh
theorem RowAt.setSet (h : RowAt w g e cur) (cs : Array Value) (i : Nat) (v : Value) : (w.setRow g cs).setCell ⟨g, i, none⟩ v = w.setRow g (cs.setIfInBounds i v) := by
  obtain ⟨fz, hf, hh⟩ := h
  exact setRow_setCell hh cs i v
theorem RowAt.setCell (h : RowAt w g e cur) (i : Nat) (v : Value) : w.setCell ⟨g, i, none⟩ v = w.setRow g (cur.setIfInBounds i v) := by
  have := h.setSet cur i v
  rwa [h.setSame] at this
theorem RowAt.old (h : RowAt w g e cur) (o : Obj) : RowAt (w.alloc o) g e cur := by
  obtain ⟨fz, hf, hh⟩ := h
  exact ⟨fz, hf, heap_old hh o⟩
end
end Go.Proofs.YtlecnlnpgghmbaaGreatDoor

/- Strings of bytes. -/
namespace Go.Proofs.YtlecnlnpgghmbaaGreatDoor
set_option linter.unusedVariables false
set_option linter.unusedSimpArgs false
open Go.RowKit
/-- The string of these bytes. -/
def strOf (bs : List UInt8) : ByteArray := ⟨bs.toArray⟩
@[simp] theorem strOf_size (bs : List UInt8) : (strOf bs).size = bs.length := by simp [strOf, ByteArray.size]
@[simp] theorem strOf_data (bs : List UInt8) : (strOf bs).data.toList = bs := by simp [strOf]
theorem strOf_inj {a b : List UInt8} (h : strOf a = strOf b) : a = b := by
  have := congrArg (fun s : ByteArray => s.data.toList) h
  simpa using this
theorem strOf_toList (s : ByteArray) : strOf s.data.toList = s := by cases s; simp [strOf]
theorem fold_push (bs : List UInt8) : ∀ s : ByteArray, (bs.map fun c => (c.toNat : Int)).foldl (fun r n => r.push (UInt8.ofNat n.toNat)) s = ⟨s.data ++ bs.toArray⟩ := by
  induction bs with
  | nil => intro s; simp
  | cons c bs ih =>
    intro s
    simp only [List.map_cons, List.foldl_cons, ih]
    simp [ByteArray.push]
theorem run_string_row {P : Program} (w : World) (src dst e : TypeId) (hs : P.underlying src = some (.slice e)) (he : P.underlying e = some (.int .u8)) (hd : P.underlying dst = some .string)
    (b o n cap : Nat) (bs : List UInt8) (hn : bs.length = n) (hc : ∀ i (h : i < bs.length), w.cell? ⟨b, o + i, none⟩ = some (.int .u8 bs[i].toNat)) :
    (convert src dst (.slice (some ⟨b, o, none⟩) n cap)).run P w = .ok (.string (strOf bs)) w := by
  subst hn
  rw [run_convert_bytes_string w src dst e _ _ _ hs he hd, run_bytesToString (ns := bs.map fun c => (c.toNat : Int))]
  · rw [fold_push]; simp [strOf, ByteArray.empty, ByteArray.emptyWithCapacity]; rfl
  · have := run_loadCells_list (P := P) w ⟨b, o, none⟩ (bs.map u8v) (fun j v hv => by
      rw [List.getElem?_map] at hv
      cases hb : bs[j]? with
      | none => rw [hb] at hv; cases hv
      | some c =>
        rw [hb] at hv
        obtain ⟨hj, hcj⟩ := List.getElem?_eq_some_iff.1 hb
        rw [Addr.add_lit, hc j hj, hcj]
        simpa using hv)
    rw [List.length_map] at this
    rw [this, List.map_map]; rfl
theorem run_string_nil {P : Program} (w : World) (src dst e : TypeId) (hs : P.underlying src = some (.slice e)) (he : P.underlying e = some (.int .u8)) (hd : P.underlying dst = some .string) (n c : Nat) :
    (convert src dst (.slice none n c)).run P w = .ok (.string (strOf [])) w := by
  rw [run_convert_bytes_string w src dst e _ _ _ hs he hd]
  simp [Conv.bytesToString]
  rfl
/-- '[]byte(s)': a new row, its capacity open. -/
theorem run_bytes_string {P : Program} (w : World) (src dst e : TypeId) (hs : P.underlying src = some .string) (hd : P.underlying dst = some (.slice e)) (he : P.underlying e = some (.int .u8)) (s : ByteArray) (hsz : s.size ≤ 140737488351232) :
    ∃ cap cur w', (convert src dst (.string s)).run P w = .ok (.slice (some ⟨w.heap.size, 0, none⟩) s.size cap) w' ∧ RowAt w' w.heap.size e cur ∧ cur.size = cap ∧ s.size ≤ cap ∧ cap ≤ maxLen ∧
      cur.toList.take s.size = s.data.toList.map u8v ∧ Chg (fun _ => False) w w' := by
  obtain ⟨cap, hcap⟩ : ∃ cap, cap = (Question.appendCap s.size 0 e).cut (w.tape w.drawn (.appendCap s.size 0 e)) := ⟨_, rfl⟩
  have hge : s.size ≤ cap := by rw [hcap]; simp [Question.cut]
  have hle : cap ≤ maxLen := by rw [hcap]; exact grownCap_le_maxLen w s.size 0 e (by unfold maxLen; omega)
  obtain ⟨cur, hcur⟩ : ∃ cur, cur = s.data.map (fun b => Value.int .u8 b.toNat) ++ Array.replicate (cap - s.size) (Value.int .u8 0) := ⟨_, rfl⟩
  have hsize : cur.size = cap := by
    rw [hcur, Array.size_append, Array.size_map, Array.size_replicate]
    show s.size + (cap - s.size) = cap
    omega
  refine ⟨cap, cur, (w.drew.alloc (.cells cur e)).freeze ⟨w.heap.size, cap, none⟩ 1, ?_, ?_, hsize, hge, hle, ?_, ?_⟩
  · simp [convert, run_underlying hs, run_underlying hd, run_underlying he, Conv.stringToBytes, Question.forced, newRow, markStringish]
    rw [← hcap, ← hcur]
    have hsh : (w.drew.alloc (.cells cur e)).shape? w.heap.size = some (e, cap) := by
      simp only [World.shape?]
      rw [show w.heap.size = w.drew.heap.size from rfl, heap_new]
      simp [hsize]
    rw [hsh]
    simp [freeze, Sem.run]
  · have hh : ((w.drew.alloc (.cells cur e)).freeze ⟨w.heap.size, cap, none⟩ 1).heap[w.heap.size]? = some (.cells cur e (cap, cap + 1)) := by
      unfold World.freeze
      simp only [Nat.one_ne_zero, if_false, Array.getElem?_modify]
      rw [show w.heap.size = w.drew.heap.size from rfl, heap_new]
      simp
    exact ⟨_, fun i hi => by simp; omega, hh⟩
  · rw [hcur, Array.toList_append, Array.toList_map, List.take_left' (by rw [List.length_map, Array.length_toList]; rfl)]
  · refine ⟨rfl, rfl, rfl, ?_, fun k hk _ => ?_⟩
    · simp [World.freeze]
    · unfold World.freeze
      simp only [Nat.one_ne_zero, if_false, Array.getElem?_modify]
      rw [if_neg (by omega)]
      exact Below.heap_alloc w.drew _ k hk
end Go.Proofs.YtlecnlnpgghmbaaGreatDoor

/- pack: texts in one piece, in plain Lean. -/
namespace Go.Proofs.YtlecnlnpgghmbaaGreatDoor
set_option linter.unusedVariables false
set_option linter.unusedSimpArgs false
open Go.RowKit
theorem str_eq {a b : ByteArray} (h : a = b) : (a.toList == b.toList) = true := by rw [h]; exact beq_self_eq_true _
theorem str_ne {a b : ByteArray} (h : a ≠ b) : (a.toList == b.toList) = false := by
  rw [beq_eq_false_iff_ne, ne_eq, ByteArray.toList_eq, ByteArray.toList_eq]
  exact fun e => h (ByteArray.ext (Array.toList_inj.1 e))
/-- The whole number of a text. -/
def intS (s : ByteArray) : Option Int :=
  match Lib.parseIntB 64 s.data.toList with
  | .ok v => if strOf (Lib.itoa v) = s then some v else none
  | _ => none
def intT (n : Int) : ByteArray := strOf (Lib.itoa n)
theorem parseU_bound : ∀ (M : Nat) (l : List UInt8) (acc u : Nat), acc ≤ M → Lib.parseUintM M acc l = .ok u → u ≤ M
  | M, [], acc, u, h, e => by simp only [Lib.parseUintM] at e; cases e; exact h
  | M, c :: r, acc, u, h, e => by
    simp only [Lib.parseUintM] at e
    split at e
    · split at e
      · cases e
      · split at e
        · cases e
        · exact parseU_bound M r _ u (by omega) e
    · cases e
theorem parseI_range {l : List UInt8} {v : Int} (h : Lib.parseIntB 64 l = .ok v) : -9223372036854775808 ≤ v ∧ v ≤ 9223372036854775807 := by
  unfold Lib.parseIntB at h
  cases l with
  | nil => cases h
  | cons c r =>
    simp only at h
    split at h
    · cases h
    · cases h
    · next u hu =>
      split at h
      · cases h
      · split at h
        · cases h
        · next h1 h2 =>
          simp only [Nat.reduceSub, Nat.reducePow] at h1 h2
          cases h
          split <;> omega
theorem intS_range {s : ByteArray} {n : Int} (h : intS s = some n) : -9223372036854775808 ≤ n ∧ n ≤ 9223372036854775807 := by
  unfold intS at h
  split at h
  · next v hv =>
    split at h
    · cases h; exact parseI_range hv
    · cases h
  · cases h
theorem intS_text {s : ByteArray} {n : Int} (h : intS s = some n) : intT n = s := by
  unfold intS at h
  split at h
  · next v hv =>
    split at h
    · next he => cases h; exact he
    · cases h
  · cases h
/-- How many bytes a whole number wants. -/
def wideI (n : Int) : Nat := if -128 ≤ n ∧ n ≤ 127 then 1 else if -32768 ≤ n ∧ n ≤ 32767 then 2 else if -2147483648 ≤ n ∧ n ≤ 2147483647 then 4 else 8
/-- Of a size, readable from behind. -/
def backF : Nat → Nat → List UInt8
  | 0, _ => []
  | f + 1, n => if n < 128 then [UInt8.ofNat n] else backF f (n / 128) ++ [UInt8.ofNat (128 + n % 128)]
def backL (n : Nat) : List UInt8 := backF 5 n
/-- An entry's head and body. -/
def headL (s : ByteArray) : List UInt8 :=
  match intS s with
  | some n => UInt8.ofNat (240 + wideI n) :: leN (wideI n) (n % 18446744073709551616).toNat
  | none => if s.size < 128 then UInt8.ofNat s.size :: s.data.toList else 128 :: (leN 3 s.size ++ s.data.toList)
def entL (s : ByteArray) : List UInt8 := headL s ++ backL (headL s).length
def bodyL (L : List ByteArray) : List UInt8 := L.flatMap entL
def sizeP (L : List ByteArray) : Nat := (bodyL L).length + 9
/-- The piece. -/
def packL (L : List ByteArray) : List UInt8 := leN 4 (sizeP L) ++ (leN 4 L.length ++ (bodyL L ++ [255]))
def signN (w n : Nat) : Int := if n < 2 ^ (8 * w - 1) then (n : Int) else (n : Int) - (2 ^ (8 * w) : Nat)
/-- The text of an entry, and how many bytes its head and body are. -/
def readL : List UInt8 → Option (ByteArray × Nat)
  | [] => none
  | c :: body =>
    if c.toNat < 128 then (if body.length < c.toNat then none else some (strOf (body.take c.toNat), 1 + c.toNat))
    else if c.toNat = 128 ∧ 3 ≤ body.length then (if body.length - 3 < lowN (body.take 3) then none else some (strOf ((body.drop 3).take (lowN (body.take 3))), 4 + lowN (body.take 3)))
    else if (c.toNat = 241 ∨ c.toNat = 242 ∨ c.toNat = 244 ∨ c.toNat = 248) ∧ c.toNat - 240 ≤ body.length then some (intT (signN (c.toNat - 240) (lowN (body.take (c.toNat - 240)))), 1 + (c.toNat - 240))
    else none
theorem wideI_cases (n : Int) : wideI n = 1 ∨ wideI n = 2 ∨ wideI n = 4 ∨ wideI n = 8 := by
  unfold wideI; split
  · exact .inl rfl
  · split
    · exact .inr (.inl rfl)
    · split
      · exact .inr (.inr (.inl rfl))
      · exact .inr (.inr (.inr rfl))
theorem sign_wide {n : Int} (h : -9223372036854775808 ≤ n ∧ n ≤ 9223372036854775807) : signN (wideI n) ((n % 18446744073709551616).toNat % 256 ^ wideI n) = n := by
  unfold wideI
  split
  · simp only [signN, Nat.reduceMul, Nat.reduceSub, Nat.reducePow]; split <;> omega
  · split
    · simp only [signN, Nat.reduceMul, Nat.reduceSub, Nat.reducePow]; split <;> omega
    · split
      · simp only [signN, Nat.reduceMul, Nat.reduceSub, Nat.reducePow]; split <;> omega
      · simp only [signN, Nat.reduceMul, Nat.reduceSub, Nat.reducePow]; split <;> omega
theorem headL_int {s : ByteArray} {n : Int} (h : intS s = some n) : headL s = UInt8.ofNat (240 + wideI n) :: leN (wideI n) (n % 18446744073709551616).toNat := by unfold headL; rw [h]
theorem headL_short {s : ByteArray} (h : intS s = none) (h1 : s.size < 128) : headL s = UInt8.ofNat s.size :: s.data.toList := by unfold headL; rw [h]; simp [h1]
theorem headL_long {s : ByteArray} (h : intS s = none) (h1 : 128 ≤ s.size) : headL s = 128 :: (leN 3 s.size ++ s.data.toList) := by unfold headL; rw [h]; simp [Nat.not_lt.2 h1]
theorem size_list (s : ByteArray) : s.data.toList.length = s.size := by simp
theorem headL_length (s : ByteArray) : 1 ≤ (headL s).length ∧ (headL s).length ≤ s.size + 9 := by
  have := size_list s
  cases h : intS s with
  | some n =>
    rw [headL_int h, List.length_cons, leN_length]
    rcases wideI_cases n with e | e | e | e <;> rw [e] <;> omega
  | none =>
    by_cases h1 : s.size < 128
    · rw [headL_short h h1, List.length_cons]; omega
    · rw [headL_long h (by omega), List.length_cons, List.length_append, leN_length]; omega
/-- What was written is read, whatever stands behind it. -/
theorem read_head (s : ByteArray) (hs : s.size < 16777216) (r : List UInt8) : readL (headL s ++ r) = some (s, (headL s).length) := by
  have hl := size_list s
  cases h : intS s with
  | some n =>
    have hr := sign_wide (intS_range h)
    have ht := intS_text h
    rw [headL_int h, List.cons_append, readL, List.length_cons, leN_length]
    have hw := wideI_cases n
    have hc : (UInt8.ofNat (240 + wideI n)).toNat = 240 + wideI n := by
      rw [UInt8.toNat_ofNat']; omega
    rw [hc, if_neg (by omega), if_neg (by omega), if_pos ⟨by omega, by simp⟩, Nat.add_sub_cancel_left, List.take_left' (leN_length _ _), lowN_leN, hr, ht, Nat.add_comm]
  | none =>
    by_cases h1 : s.size < 128
    · have hc : (UInt8.ofNat s.size).toNat = s.size := by rw [UInt8.toNat_ofNat']; omega
      rw [headL_short h h1, List.cons_append, readL, hc, if_pos h1, if_neg (by simp), List.take_left' hl, strOf_toList, List.length_cons, hl, Nat.add_comm]
    · have e1 : ((leN 3 s.size ++ s.data.toList) ++ r).take 3 = leN 3 s.size := by rw [List.append_assoc]; exact List.take_left' (leN_length _ _)
      have e2 : ((leN 3 s.size ++ s.data.toList) ++ r).drop 3 = s.data.toList ++ r := by rw [List.append_assoc]; exact List.drop_left' (leN_length _ _)
      have e3 : lowN (leN 3 s.size) = s.size := by rw [lowN_leN]; omega
      rw [headL_long h (by omega), List.cons_append, readL, e1, e2, e3, List.take_left' hl, strOf_toList]
      rw [if_neg (by decide), if_pos ⟨by decide, by simp⟩, if_neg (by simp)]
      simp; omega
end Go.Proofs.YtlecnlnpgghmbaaGreatDoor

/- pack: sizes that are read from behind; where the entries stand. -/
namespace Go.Proofs.YtlecnlnpgghmbaaGreatDoor
set_option linter.unusedVariables false
set_option linter.unusedSimpArgs false
open Go.RowKit
/-- The low groups of a size, each with its mark. -/
def flB : Nat → Nat → List UInt8
  | 0, _ => []
  | k + 1, n => UInt8.ofNat (128 + n / 128 ^ k % 128) :: flB k n
@[simp] theorem flB_length : ∀ k n, (flB k n).length = k
  | 0, _ => rfl
  | k + 1, n => by simp [flB, flB_length k]
theorem flB_snoc : ∀ k n, flB (k + 1) n = flB k (n / 128) ++ [UInt8.ofNat (128 + n % 128)]
  | 0, n => by simp [flB]
  | k + 1, n => by
    rw [flB, flB_snoc k n, flB, List.cons_append, Nat.div_div_eq_div_mul, Nat.pow_succ, Nat.mul_comm 128]
theorem backF_eq : ∀ (f k n : Nat), n < 128 ^ (k + 1) → (k = 0 ∨ 128 ^ k ≤ n) → k < f → backF f n = UInt8.ofNat (n / 128 ^ k) :: flB k n
  | 0, k, n, _, _, h => by omega
  | f + 1, k, n, h1, h2, h3 => by
    unfold backF
    by_cases hn : n < 128
    · rw [if_pos hn]
      have : k = 0 := by
        rcases h2 with h | h
        · exact h
        · cases k with
          | zero => rfl
          | succ k =>
            have : 128 ^ 1 ≤ 128 ^ (k + 1) := Nat.pow_le_pow_right (by omega) (by omega)
            omega
      subst this
      simp [flB]
    · rw [if_neg hn]
      cases k with
      | zero => simp at h1; omega
      | succ k =>
        rw [backF_eq f k (n / 128) (by rw [Nat.pow_succ] at h1; omega) (by
          rcases h2 with h | h
          · omega
          · rw [Nat.pow_succ] at h; exact .inr (by omega)) (by omega), List.cons_append, ← flB_snoc, Nat.div_div_eq_div_mul, Nat.pow_succ, Nat.mul_comm 128]
theorem groups (n : Nat) (h : n < 34359738368) : ∃ k, k < 5 ∧ n < 128 ^ (k + 1) ∧ (k = 0 ∨ 128 ^ k ≤ n) := by
  by_cases h1 : n < 128
  · exact ⟨0, by omega, by omega, .inl rfl⟩
  · by_cases h2 : n < 16384
    · exact ⟨1, by omega, by omega, .inr (by omega)⟩
    · by_cases h3 : n < 2097152
      · exact ⟨2, by omega, by omega, .inr (by omega)⟩
      · by_cases h4 : n < 268435456
        · exact ⟨3, by omega, by omega, .inr (by omega)⟩
        · exact ⟨4, by omega, by omega, .inr (by omega)⟩
theorem backL_eq {n k : Nat} (h1 : n < 128 ^ (k + 1)) (h2 : k = 0 ∨ 128 ^ k ≤ n) (h3 : k < 5) : backL n = UInt8.ofNat (n / 128 ^ k) :: flB k n := backF_eq 5 k n h1 h2 h3
theorem backL_length (n : Nat) (h : n < 34359738368) : 1 ≤ (backL n).length ∧ (backL n).length ≤ 5 := by
  obtain ⟨k, h1, h2, h3⟩ := groups n h
  rw [backL_eq h2 h3 h1]
  simp; omega
theorem flB_get : ∀ (k n i : Nat), i < k → (flB k n)[k - 1 - i]? = some (UInt8.ofNat (128 + n / 128 ^ i % 128))
  | 0, n, i, h => by omega
  | k + 1, n, i, h => by
    unfold flB
    by_cases hi : i = k
    · subst hi; simp
    · rw [show k + 1 - 1 - i = (k - 1 - i) + 1 by omega, List.getElem?_cons_succ]
      exact flB_get k n i (by omega)
/-- The byte of a size that is the i-th from behind. -/
theorem back_get {n k : Nat} (h1 : n < 128 ^ (k + 1)) (h2 : k = 0 ∨ 128 ^ k ≤ n) (h3 : k < 5) {i : Nat} (hi : i ≤ k) : (backL n)[k - i]? = some (UInt8.ofNat (n / 128 ^ i % 128 + if i = k then 0 else 128)) := by
  rw [backL_eq h1 h2 h3]
  by_cases h : i = k
  · subst h
    rw [Nat.sub_self, List.getElem?_cons_zero, if_pos rfl, Nat.add_zero, Nat.mod_eq_of_lt]
    rw [Nat.pow_succ] at h1
    exact Nat.div_lt_of_lt_mul h1
  · rw [show k - i = (k - 1 - i) + 1 by omega, List.getElem?_cons_succ, flB_get k n i (by omega), if_neg h, Nat.add_comm]
/-! Where the entries stand. -/
theorem bodyL_nil : bodyL [] = [] := rfl
theorem bodyL_cons (s : ByteArray) (L : List ByteArray) : bodyL (s :: L) = entL s ++ bodyL L := by simp [bodyL]
theorem bodyL_append (L M : List ByteArray) : bodyL (L ++ M) = bodyL L ++ bodyL M := by simp [bodyL]
def offL (L : List ByteArray) (i : Nat) : Nat := 8 + (bodyL (L.take i)).length
theorem offL_zero (L : List ByteArray) : offL L 0 = 8 := by simp [offL, bodyL_nil]
theorem take_succ_get {α : Type} {L : List α} {i : Nat} (h : i < L.length) : L.take (i + 1) = L.take i ++ [L[i]] := by
  rw [List.take_add_one, List.getElem?_eq_getElem h]; rfl
theorem offL_succ {L : List ByteArray} {i : Nat} (h : i < L.length) : offL L (i + 1) = offL L i + (entL L[i]).length := by
  unfold offL
  rw [take_succ_get h, bodyL_append, List.length_append, bodyL_cons, bodyL_nil, List.append_nil]; omega
theorem offL_all {L : List ByteArray} {i : Nat} (h : L.length ≤ i) : offL L i = sizeP L - 1 := by
  unfold offL sizeP; rw [List.take_of_length_le h]; omega
theorem offL_mono {L : List ByteArray} {i j : Nat} (h : i ≤ j) : offL L i ≤ offL L j := by
  unfold offL
  have : L.take j = L.take i ++ (L.take j).drop i := by
    have := List.take_append_drop i (L.take j)
    rw [List.take_take, Nat.min_eq_left h] at this
    exact this.symm
  rw [this, bodyL_append, List.length_append]; omega
theorem offL_lt (L : List ByteArray) (i : Nat) : 8 ≤ offL L i ∧ offL L i + 1 ≤ sizeP L := by
  refine ⟨by unfold offL; omega, ?_⟩
  by_cases h : i ≤ L.length
  · have h1 := offL_mono (L := L) h
    have h2 := offL_all (L := L) (Nat.le_refl _)
    have : 9 ≤ sizeP L := by unfold sizeP; omega
    omega
  · have h2 := offL_all (L := L) (i := i) (by omega)
    have : 9 ≤ sizeP L := by unfold sizeP; omega
    omega
theorem packL_length (L : List ByteArray) : (packL L).length = sizeP L := by simp [packL, sizeP]; omega
theorem packL_drop (L : List ByteArray) (i : Nat) : (packL L).drop (offL L i) = bodyL (L.drop i) ++ [255] := by
  have h : bodyL L = bodyL (L.take i) ++ bodyL (L.drop i) := by rw [← bodyL_append, List.take_append_drop]
  unfold packL offL
  conv => lhs; rw [h]
  rw [show leN 4 (sizeP L) ++ (leN 4 L.length ++ ((bodyL (L.take i) ++ bodyL (L.drop i)) ++ [255])) = (leN 4 (sizeP L) ++ (leN 4 L.length ++ bodyL (L.take i))) ++ (bodyL (L.drop i) ++ [255]) by simp]
  exact List.drop_left' (by simp; omega)
theorem packL_take (L : List ByteArray) (i : Nat) : (packL L).take (offL L i) = leN 4 (sizeP L) ++ (leN 4 L.length ++ bodyL (L.take i)) := by
  have h : bodyL L = bodyL (L.take i) ++ bodyL (L.drop i) := by rw [← bodyL_append, List.take_append_drop]
  unfold packL offL
  conv => lhs; rw [h]
  rw [show leN 4 (sizeP L) ++ (leN 4 L.length ++ ((bodyL (L.take i) ++ bodyL (L.drop i)) ++ [255])) = (leN 4 (sizeP L) ++ (leN 4 L.length ++ bodyL (L.take i))) ++ (bodyL (L.drop i) ++ [255]) by simp]
  exact List.take_left' (by simp; omega)
theorem packL_head (L : List ByteArray) : (packL L).take 4 = leN 4 (sizeP L) := by
  unfold packL; exact List.take_left' (by simp)
theorem packL_many (L : List ByteArray) : ((packL L).drop 4).take 4 = leN 4 L.length := by
  unfold packL; rw [List.drop_left' (by simp)]; exact List.take_left' (by simp)
theorem read_pack {L : List ByteArray} {i : Nat} (h : i < L.length) (hs : L[i].size < 16777216) : readL ((packL L).drop (offL L i)) = some (L[i], (headL L[i]).length) := by
  rw [packL_drop, List.drop_eq_getElem_cons h, bodyL_cons, entL, List.append_assoc, List.append_assoc]
  exact read_head _ hs _
theorem entL_length (s : ByteArray) (hs : s.size < 16777216) : 2 ≤ (entL s).length ∧ (entL s).length ≤ s.size + 14 := by
  have h1 := headL_length s
  have h2 := backL_length (headL s).length (by omega)
  unfold entL; rw [List.length_append]; omega
/-! Equal bytes, equal texts. -/
theorem body_inj : ∀ {L M : List ByteArray} {r t : List UInt8}, L.length = M.length → (∀ s ∈ L, s.size < 16777216) → (∀ s ∈ M, s.size < 16777216) → bodyL L ++ r = bodyL M ++ t → L = M
  | [], [], _, _, _, _, _, _ => rfl
  | s :: L, u :: M, r, t, hl, h1, h2, h => by
    rw [bodyL_cons, bodyL_cons, entL, entL, List.append_assoc, List.append_assoc, List.append_assoc, List.append_assoc] at h
    have e1 := read_head s (h1 s (by simp)) (backL (headL s).length ++ (bodyL L ++ r))
    have e2 := read_head u (h2 u (by simp)) (backL (headL u).length ++ (bodyL M ++ t))
    rw [h, e2] at e1
    cases e1
    have h := List.append_cancel_left (List.append_cancel_left h)
    rw [body_inj (by simpa using hl) (fun x hx => h1 x (by simp [hx])) (fun x hx => h2 x (by simp [hx])) h]
  | [], _ :: _, _, _, h, _, _, _ => by simp at h
  | _ :: _, [], _, _, h, _, _, _ => by simp at h
theorem pack_inj {L M : List ByteArray} (h1 : ∀ s ∈ L, s.size < 16777216) (h2 : ∀ s ∈ M, s.size < 16777216) (hL : L.length < 4294967296) (hM : M.length < 4294967296) (h : packL L = packL M) : L = M := by
  have e := congrArg (fun l => (l.drop 4).take 4) h
  simp only [packL_many] at e
  have e' := congrArg lowN e
  rw [lowN_leN, lowN_leN] at e'
  have hl : L.length = M.length := by omega
  unfold packL at h
  have h := List.append_inj_right h (by simp)
  have h := List.append_inj_right h (by simp)
  exact body_inj hl h1 h2 h
theorem lowN_append : ∀ (a b : List UInt8), lowN (a ++ b) = lowN a + 256 ^ a.length * lowN b
  | [], b => by simp [lowN]
  | c :: a, b => by
    simp only [List.cons_append, lowN, lowN_append a b, List.length_cons, Nat.pow_succ]
    rw [Nat.mul_add, Nat.add_assoc, Nat.mul_comm (256 ^ a.length) 256, Nat.mul_assoc]
theorem pack_prefix {L M : List ByteArray} {n : Nat} (hn : n = min (sizeP L) (sizeP M)) (hL : sizeP L < 4294967296) (hM : sizeP M < 4294967296) (h : (packL L).take n = (packL M).take n) : packL L = packL M := by
  have h4 : 4 ≤ n := by unfold sizeP at hn; omega
  have e := congrArg (fun l => lowN (l.take 4)) h
  simp only [List.take_take, Nat.min_eq_left h4, packL_head, lowN_leN] at e
  have e' : sizeP L = sizeP M := by omega
  rw [List.take_of_length_le (by rw [packL_length]; omega), List.take_of_length_le (by rw [packL_length]; omega)] at h
  exact h
end Go.Proofs.YtlecnlnpgghmbaaGreatDoor

/-
  DERIVED: THE SHELF's CONTRACTS AT THIS DUMP, IN PLAIN WORDS (tools/lay-plain.mjs out of 'TryzShelf.lean', which tools/lay-shelf.mjs wrote): THE SAME DECLARATIONS UNDER THE SAME NAMES: 'import', 'namespace', 'open', 'def', 'theorem' AND NOTHING ELSE: no command of the shelf's: FOR A HAND-IN. Each laying: the table of numbers ('.._ren') and one theorem, a field a fact of the dump's own or the kernel's comparison; each contract: ONE APPLICATION.
-/
namespace Go.Proofs
open Go.Shelf
def Tryz.laysM171_ren : Go.Shelf.Ren := ⟨fun | 171 => 99 | 243 => 109 | 246 => 119 | 283 => 124 | 284 => 125 | 285 => 126 | 286 => 127 | 129 => 131 | 317 => 130 | 318 => 132 | 319 => 133 | 320 => 134 | 337 => 140 | 338 => 141 | n => n, fun | 3 => 3 | 9 => 9 | 2 => 2 | 4 => 4 | 171 => 191 | 0 => 0 | 53 => 114 | 37 => 90 | 5 => 5 | 173 => 193 | 212 => 197 | 51 => 198 | 20 => 20 | 213 => 199 | 46 => 172 | 232 => 215 | 233 => 216 | n => n, fun | 17 => 0 | 18 => 3 | 19 => 4 | n => n⟩
theorem Tryz.laysM171 : Go.Proofs.LaysM.n171 Tryz.prog Tryz.laysM171_ren := {
  mixed := by kernel_rfl
  f129 := Tryz.func131.trans (congrArg some (by kernel_rfl))
  f171 := Tryz.func99.trans (congrArg some (by kernel_rfl))
  f243 := Tryz.func109.trans (congrArg some (by kernel_rfl))
  f246 := Tryz.func119.trans (congrArg some (by kernel_rfl))
  f283 := Tryz.func124.trans (congrArg some (by kernel_rfl))
  f284 := Tryz.func125.trans (congrArg some (by kernel_rfl))
  f285 := Tryz.func126.trans (congrArg some (by kernel_rfl))
  f286 := Tryz.func127.trans (congrArg some (by kernel_rfl))
  f317 := Tryz.func130.trans (congrArg some (by kernel_rfl))
  f318 := Tryz.func132.trans (congrArg some (by kernel_rfl))
  f319 := Tryz.func133.trans (congrArg some (by kernel_rfl))
  f320 := Tryz.func134.trans (congrArg some (by kernel_rfl))
  f337 := Tryz.func140.trans (congrArg some (by kernel_rfl))
  f338 := Tryz.func141.trans (congrArg some (by kernel_rfl))
  t0 := Tryz.underlying0
  a0 := Tryz.isAgg0
  z0 := Tryz.sizeOf0
  v0 := Tryz.zeroValue0
  t2 := Tryz.underlying2
  a2 := Tryz.isAgg2
  z2 := Tryz.sizeOf2
  v2 := Tryz.zeroValue2
  t3 := Tryz.underlying3
  a3 := Tryz.isAgg3
  z3 := Tryz.sizeOf3
  v3 := Tryz.zeroValue3
  t4 := Tryz.underlying4
  a4 := Tryz.isAgg4
  z4 := Tryz.sizeOf4
  v4 := Tryz.zeroValue4
  t5 := Tryz.underlying5
  a5 := Tryz.isAgg5
  z5 := Tryz.sizeOf5
  v5 := Tryz.zeroValue5
  t9 := Tryz.underlying9
  a9 := Tryz.isAgg9
  z9 := Tryz.sizeOf9
  v9 := Tryz.zeroValue9
  t20 := Tryz.underlying20
  a20 := Tryz.isAgg20
  z20 := Tryz.sizeOf20
  v20 := Tryz.zeroValue20
  t37 := Tryz.underlying90
  a37 := Tryz.isAgg90
  z37 := Tryz.sizeOf90
  v37 := Tryz.zeroValue90
  t46 := Tryz.underlying172
  a46 := Tryz.isAgg172
  z46 := Tryz.sizeOf172
  v46 := Tryz.zeroValue172
  t51 := Tryz.underlying198
  a51 := Tryz.isAgg198
  z51 := Tryz.sizeOf198
  v51 := Tryz.zeroValue198
  t53 := Tryz.underlying114
  a53 := Tryz.isAgg114
  z53 := Tryz.sizeOf114
  v53 := Tryz.zeroValue114
  t171 := Tryz.underlying191
  a171 := Tryz.isAgg191
  z171 := Tryz.sizeOf191
  v171 := Tryz.zeroValue191
  t173 := Tryz.underlying193
  a173 := Tryz.isAgg193
  z173 := Tryz.sizeOf193
  v173 := Tryz.zeroValue193
  t212 := Tryz.underlying197
  a212 := Tryz.isAgg197
  z212 := Tryz.sizeOf197
  v212 := Tryz.zeroValue197
  t213 := Tryz.underlying199
  a213 := Tryz.isAgg199
  z213 := Tryz.sizeOf199
  t232 := Tryz.underlying215
  a232 := Tryz.isAgg215
  z232 := Tryz.sizeOf215
  v232 := Tryz.zeroValue215
  t233 := Tryz.underlying216
  a233 := Tryz.isAgg216
  z233 := Tryz.sizeOf216
  v233 := Tryz.zeroValue216
  g17 := by kernel_rfl
  g18 := by kernel_rfl
  g19 := by kernel_rfl
  i0 := by kernel_rfl
  i2 := by kernel_rfl
  i3 := by kernel_rfl
  i4 := by kernel_rfl
  i5 := by kernel_rfl
  i9 := by kernel_rfl
  i20 := by kernel_rfl
  i37 := by kernel_rfl
  i46 := by kernel_rfl
  i51 := by kernel_rfl
  i53 := by kernel_rfl
  i171 := by kernel_rfl
  i173 := by kernel_rfl
  i212 := by kernel_rfl
  i232 := by kernel_rfl
  i233 := by kernel_rfl
  m17 := by kernel_rfl
  m18 := by kernel_rfl
  m19 := by kernel_rfl }
def Tryz.laysM173_ren : Go.Shelf.Ren := ⟨fun | 173 => 123 | 246 => 119 | 283 => 124 | 284 => 125 | 285 => 126 | 286 => 127 | 129 => 131 | 317 => 130 | 318 => 132 | 319 => 133 | 320 => 134 | 337 => 140 | 338 => 141 | n => n, fun | 2 => 2 | 3 => 3 | 9 => 9 | 4 => 4 | 171 => 191 | 0 => 0 | 53 => 114 | 37 => 90 | 5 => 5 | 173 => 193 | 212 => 197 | 51 => 198 | 20 => 20 | 213 => 199 | 46 => 172 | 232 => 215 | 233 => 216 | n => n, fun | 17 => 0 | 18 => 3 | 19 => 4 | n => n⟩
theorem Tryz.laysM173 : Go.Proofs.LaysM.n173 Tryz.prog Tryz.laysM173_ren := {
  mixed := by kernel_rfl
  f129 := Tryz.func131.trans (congrArg some (by kernel_rfl))
  f173 := Tryz.func123.trans (congrArg some (by kernel_rfl))
  f246 := Tryz.func119.trans (congrArg some (by kernel_rfl))
  f283 := Tryz.func124.trans (congrArg some (by kernel_rfl))
  f284 := Tryz.func125.trans (congrArg some (by kernel_rfl))
  f285 := Tryz.func126.trans (congrArg some (by kernel_rfl))
  f286 := Tryz.func127.trans (congrArg some (by kernel_rfl))
  f317 := Tryz.func130.trans (congrArg some (by kernel_rfl))
  f318 := Tryz.func132.trans (congrArg some (by kernel_rfl))
  f319 := Tryz.func133.trans (congrArg some (by kernel_rfl))
  f320 := Tryz.func134.trans (congrArg some (by kernel_rfl))
  f337 := Tryz.func140.trans (congrArg some (by kernel_rfl))
  f338 := Tryz.func141.trans (congrArg some (by kernel_rfl))
  t0 := Tryz.underlying0
  a0 := Tryz.isAgg0
  z0 := Tryz.sizeOf0
  v0 := Tryz.zeroValue0
  t2 := Tryz.underlying2
  a2 := Tryz.isAgg2
  z2 := Tryz.sizeOf2
  v2 := Tryz.zeroValue2
  t3 := Tryz.underlying3
  a3 := Tryz.isAgg3
  z3 := Tryz.sizeOf3
  v3 := Tryz.zeroValue3
  t4 := Tryz.underlying4
  a4 := Tryz.isAgg4
  z4 := Tryz.sizeOf4
  v4 := Tryz.zeroValue4
  t5 := Tryz.underlying5
  a5 := Tryz.isAgg5
  z5 := Tryz.sizeOf5
  v5 := Tryz.zeroValue5
  t9 := Tryz.underlying9
  a9 := Tryz.isAgg9
  z9 := Tryz.sizeOf9
  v9 := Tryz.zeroValue9
  t20 := Tryz.underlying20
  a20 := Tryz.isAgg20
  z20 := Tryz.sizeOf20
  v20 := Tryz.zeroValue20
  t37 := Tryz.underlying90
  a37 := Tryz.isAgg90
  z37 := Tryz.sizeOf90
  v37 := Tryz.zeroValue90
  t46 := Tryz.underlying172
  a46 := Tryz.isAgg172
  z46 := Tryz.sizeOf172
  v46 := Tryz.zeroValue172
  t51 := Tryz.underlying198
  a51 := Tryz.isAgg198
  z51 := Tryz.sizeOf198
  v51 := Tryz.zeroValue198
  t53 := Tryz.underlying114
  a53 := Tryz.isAgg114
  z53 := Tryz.sizeOf114
  v53 := Tryz.zeroValue114
  t171 := Tryz.underlying191
  a171 := Tryz.isAgg191
  z171 := Tryz.sizeOf191
  v171 := Tryz.zeroValue191
  t173 := Tryz.underlying193
  a173 := Tryz.isAgg193
  z173 := Tryz.sizeOf193
  v173 := Tryz.zeroValue193
  t212 := Tryz.underlying197
  a212 := Tryz.isAgg197
  z212 := Tryz.sizeOf197
  v212 := Tryz.zeroValue197
  t213 := Tryz.underlying199
  a213 := Tryz.isAgg199
  z213 := Tryz.sizeOf199
  t232 := Tryz.underlying215
  a232 := Tryz.isAgg215
  z232 := Tryz.sizeOf215
  v232 := Tryz.zeroValue215
  t233 := Tryz.underlying216
  a233 := Tryz.isAgg216
  z233 := Tryz.sizeOf216
  v233 := Tryz.zeroValue216
  g17 := by kernel_rfl
  g18 := by kernel_rfl
  g19 := by kernel_rfl
  i0 := by kernel_rfl
  i2 := by kernel_rfl
  i3 := by kernel_rfl
  i4 := by kernel_rfl
  i5 := by kernel_rfl
  i9 := by kernel_rfl
  i20 := by kernel_rfl
  i37 := by kernel_rfl
  i46 := by kernel_rfl
  i51 := by kernel_rfl
  i53 := by kernel_rfl
  i171 := by kernel_rfl
  i173 := by kernel_rfl
  i212 := by kernel_rfl
  i232 := by kernel_rfl
  i233 := by kernel_rfl
  m17 := by kernel_rfl
  m18 := by kernel_rfl
  m19 := by kernel_rfl }
def Tryz.laysC174_ren : Go.Shelf.Ren := ⟨fun | 174 => 122 | 247 => 128 | 245 => 129 | 287 => 135 | 279 => 136 | 280 => 137 | 281 => 138 | 282 => 139 | 321 => 142 | 322 => 143 | 316 => 144 | 171 => 99 | 205 => 145 | 243 => 109 | 246 => 119 | 283 => 124 | 284 => 125 | 285 => 126 | 286 => 127 | 129 => 131 | 317 => 130 | 318 => 132 | 319 => 133 | 320 => 134 | 337 => 140 | 338 => 141 | n => n, fun | 9 => 9 | 3 => 3 | 2 => 2 | 75 => 188 | 85 => 189 | 4 => 4 | 167 => 202 | 5 => 5 | 53 => 114 | 175 => 203 | 46 => 172 | 168 => 205 | 37 => 90 | 0 => 0 | 210 => 213 | 21 => 21 | 127 => 217 | 145 => 220 | 143 => 218 | 171 => 191 | 173 => 193 | 212 => 197 | 51 => 198 | 20 => 20 | 213 => 199 | 232 => 215 | 233 => 216 | 80 => 221 | n => n, fun | 15 => 1 | 16 => 2 | 17 => 0 | 18 => 3 | 19 => 4 | n => n⟩
theorem Tryz.laysC174 : Go.Proofs.LaysC.n174 Tryz.prog Tryz.laysC174_ren := {
  mixed := by kernel_rfl
  f129 := Tryz.func131.trans (congrArg some (by kernel_rfl))
  f171 := Tryz.func99.trans (congrArg some (by kernel_rfl))
  f174 := Tryz.func122.trans (congrArg some (by kernel_rfl))
  f205 := Tryz.func145.trans (congrArg some (by kernel_rfl))
  f243 := Tryz.func109.trans (congrArg some (by kernel_rfl))
  f245 := Tryz.func129.trans (congrArg some (by kernel_rfl))
  f246 := Tryz.func119.trans (congrArg some (by kernel_rfl))
  f247 := Tryz.func128.trans (congrArg some (by kernel_rfl))
  f279 := Tryz.func136.trans (congrArg some (by kernel_rfl))
  f280 := Tryz.func137.trans (congrArg some (by kernel_rfl))
  f281 := Tryz.func138.trans (congrArg some (by kernel_rfl))
  f282 := Tryz.func139.trans (congrArg some (by kernel_rfl))
  f283 := Tryz.func124.trans (congrArg some (by kernel_rfl))
  f284 := Tryz.func125.trans (congrArg some (by kernel_rfl))
  f285 := Tryz.func126.trans (congrArg some (by kernel_rfl))
  f286 := Tryz.func127.trans (congrArg some (by kernel_rfl))
  f287 := Tryz.func135.trans (congrArg some (by kernel_rfl))
  f316 := Tryz.func144.trans (congrArg some (by kernel_rfl))
  f317 := Tryz.func130.trans (congrArg some (by kernel_rfl))
  f318 := Tryz.func132.trans (congrArg some (by kernel_rfl))
  f319 := Tryz.func133.trans (congrArg some (by kernel_rfl))
  f320 := Tryz.func134.trans (congrArg some (by kernel_rfl))
  f321 := Tryz.func142.trans (congrArg some (by kernel_rfl))
  f322 := Tryz.func143.trans (congrArg some (by kernel_rfl))
  f337 := Tryz.func140.trans (congrArg some (by kernel_rfl))
  f338 := Tryz.func141.trans (congrArg some (by kernel_rfl))
  t0 := Tryz.underlying0
  a0 := Tryz.isAgg0
  z0 := Tryz.sizeOf0
  v0 := Tryz.zeroValue0
  t2 := Tryz.underlying2
  a2 := Tryz.isAgg2
  z2 := Tryz.sizeOf2
  v2 := Tryz.zeroValue2
  t3 := Tryz.underlying3
  a3 := Tryz.isAgg3
  z3 := Tryz.sizeOf3
  v3 := Tryz.zeroValue3
  t4 := Tryz.underlying4
  a4 := Tryz.isAgg4
  z4 := Tryz.sizeOf4
  v4 := Tryz.zeroValue4
  t5 := Tryz.underlying5
  a5 := Tryz.isAgg5
  z5 := Tryz.sizeOf5
  v5 := Tryz.zeroValue5
  t9 := Tryz.underlying9
  a9 := Tryz.isAgg9
  z9 := Tryz.sizeOf9
  v9 := Tryz.zeroValue9
  t20 := Tryz.underlying20
  a20 := Tryz.isAgg20
  z20 := Tryz.sizeOf20
  v20 := Tryz.zeroValue20
  t21 := Tryz.underlying21
  a21 := Tryz.isAgg21
  z21 := Tryz.sizeOf21
  v21 := Tryz.zeroValue21
  t37 := Tryz.underlying90
  a37 := Tryz.isAgg90
  z37 := Tryz.sizeOf90
  v37 := Tryz.zeroValue90
  t46 := Tryz.underlying172
  a46 := Tryz.isAgg172
  z46 := Tryz.sizeOf172
  v46 := Tryz.zeroValue172
  t51 := Tryz.underlying198
  a51 := Tryz.isAgg198
  z51 := Tryz.sizeOf198
  v51 := Tryz.zeroValue198
  t53 := Tryz.underlying114
  a53 := Tryz.isAgg114
  z53 := Tryz.sizeOf114
  v53 := Tryz.zeroValue114
  t75 := Tryz.underlying188
  a75 := Tryz.isAgg188
  z75 := Tryz.sizeOf188
  v75 := Tryz.zeroValue188
  t85 := Tryz.underlying189
  a85 := Tryz.isAgg189
  z85 := Tryz.sizeOf189
  v85 := Tryz.zeroValue189
  t127 := Tryz.underlying217
  a127 := Tryz.isAgg217
  z127 := Tryz.sizeOf217
  v127 := Tryz.zeroValue217
  t143 := Tryz.underlying218
  a143 := Tryz.isAgg218
  z143 := Tryz.sizeOf218
  v143 := Tryz.zeroValue218
  t145 := Tryz.underlying220
  a145 := Tryz.isAgg220
  z145 := Tryz.sizeOf220
  v145 := Tryz.zeroValue220
  t167 := Tryz.underlying202
  a167 := Tryz.isAgg202
  z167 := Tryz.sizeOf202
  v167 := Tryz.zeroValue202
  t168 := Tryz.underlying205
  a168 := Tryz.isAgg205
  z168 := Tryz.sizeOf205
  v168 := Tryz.zeroValue205
  t171 := Tryz.underlying191
  a171 := Tryz.isAgg191
  z171 := Tryz.sizeOf191
  v171 := Tryz.zeroValue191
  t173 := Tryz.underlying193
  a173 := Tryz.isAgg193
  z173 := Tryz.sizeOf193
  v173 := Tryz.zeroValue193
  t175 := Tryz.underlying203
  a175 := Tryz.isAgg203
  z175 := Tryz.sizeOf203
  v175 := Tryz.zeroValue203
  t210 := Tryz.underlying213
  a210 := Tryz.isAgg213
  z210 := Tryz.sizeOf213
  v210 := Tryz.zeroValue213
  t212 := Tryz.underlying197
  a212 := Tryz.isAgg197
  z212 := Tryz.sizeOf197
  v212 := Tryz.zeroValue197
  t213 := Tryz.underlying199
  a213 := Tryz.isAgg199
  z213 := Tryz.sizeOf199
  t232 := Tryz.underlying215
  a232 := Tryz.isAgg215
  z232 := Tryz.sizeOf215
  v232 := Tryz.zeroValue215
  t233 := Tryz.underlying216
  a233 := Tryz.isAgg216
  z233 := Tryz.sizeOf216
  v233 := Tryz.zeroValue216
  g15 := by kernel_rfl
  g16 := by kernel_rfl
  g17 := by kernel_rfl
  g18 := by kernel_rfl
  g19 := by kernel_rfl
  t80 := Tryz.underlying221
  a80 := Tryz.isAgg221
  z80 := Tryz.sizeOf221
  v80 := Tryz.zeroValue221
  i0 := by kernel_rfl
  i2 := by kernel_rfl
  i3 := by kernel_rfl
  i4 := by kernel_rfl
  i5 := by kernel_rfl
  i9 := by kernel_rfl
  i20 := by kernel_rfl
  i21 := by kernel_rfl
  i37 := by kernel_rfl
  i46 := by kernel_rfl
  i51 := by kernel_rfl
  i53 := by kernel_rfl
  i75 := by kernel_rfl
  i80 := by kernel_rfl
  i85 := by kernel_rfl
  i127 := by kernel_rfl
  i143 := by kernel_rfl
  i145 := by kernel_rfl
  i167 := by kernel_rfl
  i168 := by kernel_rfl
  i171 := by kernel_rfl
  i173 := by kernel_rfl
  i175 := by kernel_rfl
  i210 := by kernel_rfl
  i212 := by kernel_rfl
  i232 := by kernel_rfl
  i233 := by kernel_rfl
  m15 := by kernel_rfl
  m16 := by kernel_rfl
  m17 := by kernel_rfl
  m18 := by kernel_rfl
  m19 := by kernel_rfl
  c0 := by kernel_rfl
  c2 := by kernel_rfl
  c3 := by kernel_rfl
  c4 := by kernel_rfl
  c5 := by kernel_rfl
  c9 := by kernel_rfl
  c20 := by kernel_rfl
  c21 := by kernel_rfl
  c37 := by kernel_rfl
  c46 := by kernel_rfl
  c51 := by kernel_rfl
  c53 := by kernel_rfl
  c75 := by kernel_rfl
  c80 := by kernel_rfl
  c85 := by kernel_rfl
  c127 := by kernel_rfl
  c143 := by kernel_rfl
  c145 := by kernel_rfl
  c167 := by kernel_rfl
  c168 := by kernel_rfl
  c171 := by kernel_rfl
  c173 := by kernel_rfl
  c175 := by kernel_rfl
  c210 := by kernel_rfl
  c212 := by kernel_rfl
  c213 := by kernel_rfl
  c232 := by kernel_rfl
  c233 := by kernel_rfl }
open Go.RowKit Go.Sort Go.Lib in
/-- strconv.Itoa: "Itoa is equivalent to FormatInt(int64(i), 10).": i's DECIMAL NUMERAL ('Lib.itoa': a '-' where i is negative, then the digits), FOR EVERY int. The world behind the call: the world before it, new blocks behind the heap (the library's 'var a [24]byte'), draws. (LAID: no walk: one application.) -/
theorem Tryz.strconv_Itoa (n : Int) (h0 : -9223372036854775808 ≤ n) (h1 : n ≤ 9223372036854775807) (w : World) (htab : Lib.TabIs Tryz.prog w "internal/strconv.uint64pow10" .u64 Lib.pow10Tab) :
    Calls Tryz.prog 99 #[.int .i64 n] w fun e w' => e = .returned (.string ⟨(Lib.itoa n).toArray⟩) ∧ ∃ k os, w' = grow (w.drewN k) os := Any.strconv_Itoa Tryz.laysM171 n h0 h1 w htab
open Go.RowKit Go.Sort Go.Lib in
/-- strconv.FormatInt: "FormatInt returns the string representation of i in the given base": AT BASE 10: i's decimal numeral, for every int64. (LAID: no walk: one application.) -/
theorem Tryz.strconv_FormatInt_10 (n : Int) (h0 : -9223372036854775808 ≤ n) (h1 : n ≤ 9223372036854775807) (w : World) (htab : Lib.TabIs Tryz.prog w "internal/strconv.uint64pow10" .u64 Lib.pow10Tab) :
    Calls Tryz.prog 123 #[.int .i64 n, .int .i64 10] w fun e w' => e = .returned (.string ⟨(Lib.itoa n).toArray⟩) ∧ ∃ k os, w' = grow (w.drewN k) os := Any.strconv_FormatInt_10 Tryz.laysM173 n h0 h1 w htab
open Go.RowKit in
/-- strconv.ParseInt(s, 10, 64), AT EVERY STRING THAT SPELLS AN int64 ('Lib.parseIntB 64 s.data.toList = .ok v'): v, AND NO ERROR. (LAID: no walk: one application.) -/
theorem Tryz.strconv_ParseInt_10_at64_ok (s : ByteArray) (hmax : s.size ≤ 9223372036854775806) (v : Int) (h : Lib.parseIntB 64 s.data.toList = .ok v) (w : World) :
    Calls Tryz.prog 122 #[.string s, .int .i64 10, .int .i64 64] w fun e w' => e = .returned (.tuple #[.int .i64 v, .nilIface]) ∧ (w' = w ∨ ∃ t, w' = Lib.bytesWorld w 5 t) := Any.strconv_ParseInt_10_at64_ok Tryz.laysC174 s hmax v h w
open Go.RowKit in
theorem Tryz.strconv_ParseInt_10_at64_syntax_var (s : ByteArray) (hlim : s.size ≤ 281474976710656) (h : Lib.parseIntB 64 s.data.toList = Lib.parseIntB 64 []) (tp : TypeId) (p : Value) (w : World) (hvar : w.var? Tryz.prog "strconv.ErrSyntax" = some #[.iface tp p]) :
    Calls Tryz.prog 122 #[.string s, .int .i64 10, .int .i64 64] w fun e w' => ∃ N, e = .returned (.tuple #[.int .i64 (0), .iface 205 (.pointer (some ⟨N, 0, none⟩))]) ∧ w.heap.size ≤ N ∧ w'.heap[N]? = some (.cells #[.string ⟨#[80, 97, 114, 115, 101, 73, 110, 116]⟩, .string s, .iface tp p] 213 (0, 0)) ∧ Below w.heap.size w w' := Any.strconv_ParseInt_10_at64_syntax_var Tryz.laysC174 s hlim h tp p w hvar
open Go.RowKit in
theorem Tryz.strconv_ParseInt_10_at64_range_var (s : ByteArray) (hlim : s.size ≤ 281474976710656) (h : Lib.parseIntB 64 s.data.toList = .range) (tp : TypeId) (p : Value) (w : World) (hvar : w.var? Tryz.prog "strconv.ErrRange" = some #[.iface tp p]) :
    Calls Tryz.prog 122 #[.string s, .int .i64 10, .int .i64 64] w fun e w' => ∃ N, e = .returned (.tuple #[.int .i64 (Lib.intSat 64 s.data.toList), .iface 205 (.pointer (some ⟨N, 0, none⟩))]) ∧ w.heap.size ≤ N ∧ w'.heap[N]? = some (.cells #[.string ⟨#[80, 97, 114, 115, 101, 73, 110, 116]⟩, .string s, .iface tp p] 213 (0, 0)) ∧ Below w.heap.size w w' := Any.strconv_ParseInt_10_at64_range_var Tryz.laysC174 s hlim h tp p w hvar
end Go.Proofs

/- Slices whose row is known whole: append, copy, make. -/
namespace Go.Proofs.YtlecnlnpgghmbaaGreatDoor
set_option linter.unusedVariables false
set_option linter.unusedSimpArgs false
open Go.RowKit

/-- What is known behind an append: the value, its row, and that only the old row may have been written. -/
def Appended (w : World) (e : TypeId) (size : Nat) (g : Option Nat) (olds news : List Value) (n : Nat) (v : Value) (w' : World) : Prop :=
  ∃ g' cap' cur', v = .slice (some ⟨g', 0, none⟩) n cap' ∧ RowAt w' g' e cur' ∧ cur'.size = cap' * size ∧ n ≤ cap' ∧ cap' ≤ maxLen ∧
    cur'.toList.take (n * size) = olds ++ news ∧ (some g' = g ∨ w.heap.size ≤ g') ∧ Chg (fun k => some k = g) w w'

section
variable {P : Program} (w : World)
theorem append_grown (g : Option Nat) (e : TypeId) (size : Nat) (z : Value) (hzs : z.cells.size = size) (olds news : List Value) (n old : Nat) (hl : (olds ++ news).length = n * size) (hm : n ≤ maxLen) :
    Appended w e size g olds news n (.slice (some ⟨w.heap.size, 0, none⟩) n (grownCap w n old e))
      (w.drew.alloc (.cells (olds.toArray ++ news.toArray ++ Builtin.zeroCells z.cells (grownCap w n old e - n)) e)) := by
  have hge := grownCap_ge w n old e
  refine ⟨w.heap.size, grownCap w n old e, _, rfl, .of (heap_alloc_new w.drew _), ?_, hge, grownCap_le_maxLen w n old e hm, ?_, .inr (Nat.le_refl _), (Chg.drew _ w).trans (Chg.alloc _ _ _) fun _ h _ => h⟩
  · have : (olds.toArray ++ news.toArray).size = n * size := by simpa using hl
    rw [Array.size_append, this, size_zeroCells, hzs, ← Nat.add_mul]; congr 1; omega
  · simp only [Array.toList_append, ← hl]
    exact List.take_left

theorem run_storeCells_row (g o : Nat) (t : TypeId) : ∀ (vs : List Value) (i : Nat) (cur : Array Value) (w : World), RowAt w g t cur → o + i + vs.length ≤ cur.size → (∀ v ∈ vs, v.oneCell' = true) →
    (storeCells ⟨g, o, none⟩ vs i).run P w = .ok () (w.setRow g (cur.toList.take (o + i) ++ vs ++ cur.toList.drop (o + i + vs.length)).toArray)
  | [], i, cur, w, hg, _, _ => by
    simp only [storeCells, List.append_nil, List.length_nil, Nat.add_zero, List.take_append_drop, Array.toArray_toList]
    rw [hg.setSame]
    rfl
  | v :: rest, i, cur, w, hg, hl, h1 => by
    have hlt : o + i < cur.size := by simp at hl; omega
    have hc := hg.cell (i := o + i) (v := cur[o + i]) (by simp [hlt])
    have hf := hg.free hlt
    have h1v := h1 v (by simp)
    have hst : (store (Addr.add ⟨g, o, none⟩ i) v).run P w = .ok () (w.setRow g (cur.setIfInBounds (o + i) v)) := by
      rw [Addr.add_lit, ← hg.setCell]
      unfold store
      cases v <;> simp_all [Sem.run, Value.oneCell']
    have ih := run_storeCells_row g o t rest (i + 1) (cur.setIfInBounds (o + i) v) (w.setRow g (cur.setIfInBounds (o + i) v)) (hg.setRow (by simp)) (by simp at hl ⊢; omega) (fun u hu => h1 u (by simp [hu]))
    simp only [storeCells, Sem.run_bind, hst, Result.andThen_ok, ih, setRow_setRow]
    congr 3
    have e := list_seg_step cur.toList (o + i) v rest (by simp at hl ⊢; omega)
    simpa [Array.toList_setIfInBounds, Nat.add_assoc] using e

/-- 'append(s, x...)', both slices; s not nil, its row known. -/
theorem run_append_row (t ty e : TypeId) (i : TypeInfo) (z : Value) (size bytes : Nat) (ht : P.underlying t = some (.slice e)) (hi : P.info? e = some i) (hz : i.zero = some z)
    (hsize : i.size = size) (hby : i.bytes = bytes) (hzs : z.cells.size = size)
    (g n cap : Nat) (cur : Array Value) (hg : RowAt w g e cur) (hcs : cur.size = cap * size) (hnc : n ≤ cap) (hcm : cap ≤ maxLen)
    (a : Addr) (m c : Nat) (news : List Value) (hl : news.length = m * size) (hnews : ∀ j u, news[j]? = some u → w.cell? (a.add j) = some u) (h1 : ∀ u ∈ news, u.oneCell' = true)
    (h63 : n + m ≤ maxLen) (hbytes : (n + m) * bytes ≤ 140737488355328) :
    ∃ v w', (Builtin.append_ #[t, t] ty #[.slice (some ⟨g, 0, none⟩) n cap, .slice (some a) m c]).run P w = .ok v w' ∧ Appended w e size (some g) (cur.toList.take (n * size)) news (n + m) v w' := by
  subst hsize
  subst hby
  have hol : (cur.toList.take (n * i.size)).length = n * i.size := by
    rw [List.length_take, Array.length_toList, hcs, Nat.min_eq_left (Nat.mul_le_mul_right _ hnc)]
  have hlen : (cur.toList.take (n * i.size) ++ news).length = (n + m) * i.size := by rw [List.length_append, hol, hl, Nat.add_mul]
  by_cases hroom : n + m ≤ cap
  · have hfit : n * i.size + news.length ≤ cur.size := by rw [hl, hcs, ← Nat.add_mul]; exact Nat.mul_le_mul_right _ hroom
    have hf := run_firstCells_some (P := P) w i.size m a m c news hl hnews
    have hst := run_storeCells_row (P := P) g (n * i.size) e news 0 cur w hg (by simpa using hfit) h1
    simp only [Nat.add_zero] at hst
    have hr : (Builtin.append_ #[t, t] ty #[.slice (some ⟨g, 0, none⟩) n cap, .slice (some a) m c]).run P w =
      .ok (.slice (some ⟨g, 0, none⟩) (n + m) cap) (w.setRow g (cur.toList.take (n * i.size) ++ news ++ cur.toList.drop (n * i.size + news.length)).toArray) := by
      simp [Builtin.append_, run_underlying ht, sizeOf, typeInfo, hi, Builtin.lenOf, hroom, hf, Addr.add_lit, hst]
    refine ⟨_, _, hr, g, cap, _, rfl, hg.setRow (by simp; omega), ?_, hroom, hcm, ?_, .inl rfl, Chg.setRow _ _ _ _ rfl⟩
    · simp only [List.size_toArray, List.length_append, List.length_take, List.length_drop, Array.length_toList]; omega
    · show (cur.toList.take (n * i.size) ++ news ++ cur.toList.drop (n * i.size + news.length)).take ((n + m) * i.size) = _
      rw [← hlen]; exact List.take_left
  · have holds : ∀ j u, (cur.toList.take (n * i.size))[j]? = some u → w.cell? ((⟨g, 0, none⟩ : Addr).add j) = some u := fun j u hu => by
      have hadd : (⟨g, 0, none⟩ : Addr).add j = ⟨g, j, none⟩ := by unfold Addr.add; split <;> simp_all
      rw [hadd]
      refine hg.cell ?_
      rw [List.getElem?_take] at hu
      split at hu
      · simpa using hu
      · cases hu
    have hr := run_append_grow (P := P) w t ty e i z ht hi hz ⟨g, 0, none⟩ n cap _ hol holds a m c news hl hnews (by omega) (by simp only [maxLen] at h63; omega) (growslice_fits (by omega) hbytes)
    exact ⟨_, _, hr, append_grown w (some g) e i.size z hzs _ _ _ _ hlen h63⟩

/-- 'append(nil, x...)'. -/
theorem run_append_row_nil (t ty e : TypeId) (i : TypeInfo) (z : Value) (size bytes : Nat) (ht : P.underlying t = some (.slice e)) (hi : P.info? e = some i) (hz : i.zero = some z)
    (hsize : i.size = size) (hby : i.bytes = bytes) (hzs : z.cells.size = size)
    (a : Addr) (m c : Nat) (news : List Value) (hm : 0 < m) (hl : news.length = m * size) (hnews : ∀ j u, news[j]? = some u → w.cell? (a.add j) = some u)
    (h63 : m ≤ maxLen) (hbytes : m * bytes ≤ 140737488355328) :
    ∃ v w', (Builtin.append_ #[t, t] ty #[.slice none 0 0, .slice (some a) m c]).run P w = .ok v w' ∧ Appended w e size none [] news m v w' := by
  subst hsize
  subst hby
  have hr := run_append_nil (P := P) w t ty e i z ht hi hz a m c news hl hnews (by omega) (by simp only [maxLen] at h63; omega) (by omega)
  have := append_grown w none e i.size z hzs [] news m 0 (by simpa using hl) h63
  simp only [List.append_nil, List.nil_append, Array.empty_append] at this
  exact ⟨_, _, hr, this⟩

/-- 'append(b, make([]T, k)...)'. -/
theorem run_append_zeros (t t2 ty e : TypeId) (kk : IntKind) (i : TypeInfo) (z : Value) (bytes : Nat) (ht : P.underlying t = some (.slice e)) (ht2 : P.underlying t2 = some (.int kk)) (hi : P.info? e = some i) (hz : i.zero = some z)
    (hsize : i.size = 1) (hby : i.bytes = bytes) (hzs : z.cells = #[z]) (hz1 : z.oneCell' = true)
    (g n cap : Nat) (cur : Array Value) (hg : RowAt w g e cur) (hcs : cur.size = cap) (hnc : n ≤ cap) (hcm : cap ≤ maxLen)
    (m : Nat) (hm0 : 0 < m) (h63 : n + m ≤ maxLen) (hbytes : (n + m) * bytes ≤ 140737488355328) :
    ∃ v w', (Builtin.append_ #[t, t2] ty #[.slice (some ⟨g, 0, none⟩) n cap, .int .i64 m]).run P w = .ok v w' ∧ Appended w e 1 (some g) (cur.toList.take n) (List.replicate m z) (n + m) v w' := by
  subst hby
  have hw : IntKind.i64.wrap (m : Int) = m := IntWalk.i64_in _ ⟨by omega, by simp only [maxLen] at h63; omega⟩
  have hneg : ¬ (m : Int) < 0 := by omega
  have h48 : ¬ (281474976710656 < (m : Int) * i.bytes) := by
    have : m * i.bytes ≤ (n + m) * i.bytes := Nat.mul_le_mul_right _ (by omega)
    have h2 : ((m * i.bytes : Nat) : Int) ≤ 140737488355328 := by omega
    rw [Int.natCast_mul] at h2
    omega
  have hzc : ∀ k, Builtin.zeroCells z.cells k = (List.replicate k z).toArray := fun k => by
    unfold Builtin.zeroCells
    rw [hzs]
    apply Array.ext
    · simp
    · intro j h1 h2; simp [Nat.mod_one]
  have hol : (cur.toList.take n).length = n := by rw [List.length_take, Array.length_toList, hcs, Nat.min_eq_left hnc]
  by_cases hroom : n + m ≤ cap
  · have hst := run_storeCells_row (P := P) g n e (List.replicate m z) 0 cur w hg (by simp; omega) (by simp; exact fun _ => hz1)
    simp only [Nat.add_zero, List.length_replicate] at hst
    refine ⟨.slice (some ⟨g, 0, none⟩) (n + m) cap, w.setRow g (cur.toList.take n ++ List.replicate m z ++ cur.toList.drop (n + m)).toArray, ?_, g, cap, (cur.toList.take n ++ List.replicate m z ++ cur.toList.drop (n + m)).toArray, rfl, hg.setRow (by simp; omega), ?_, hroom, hcm, ?_, .inl rfl, Chg.setRow _ _ _ _ rfl⟩
    · simp [Builtin.append_, run_underlying ht, run_underlying ht2, sizeOf, typeInfo, hi, asInt, asIntOf, hw, hneg, h48, hroom, hsize, zeroValue, hz, hzc, Addr.add_lit, show m ≠ 0 by omega, hst]
    · simp; omega
    · show (cur.toList.take n ++ List.replicate m z ++ cur.toList.drop (n + m)).take ((n + m) * 1) = _
      have : (cur.toList.take n ++ List.replicate m z).length = (n + m) * 1 := by rw [List.length_append, hol]; simp
      rw [← this]; exact List.take_left
  · have hgr := append_grown w (some g) e 1 z (by rw [hzs]; rfl) (cur.toList.take n) (List.replicate m z) (n + m) cap (by rw [List.length_append, hol]; simp) h63
    refine ⟨_, _, ?_, hgr⟩
    have h63' : ¬ (9223372036854775807 < ((n : Int) + (m : Int))) := by simp only [maxLen] at h63; omega
    have h48' : ¬ (281474976710656 < Builtin.nextslicecap (n + m) cap * i.bytes) := by have := growslice_fits (old := cap) (show cap < n + m by omega) hbytes; omega
    have holds : ∀ j u, (cur.toList.take n)[j]? = some u → w.drew.cell? ((⟨g, 0, none⟩ : Addr).add j) = some u := fun j u hu => by
      have hadd : (⟨g, 0, none⟩ : Addr).add j = ⟨g, j, none⟩ := by unfold Addr.add; split <;> simp_all
      rw [hadd]
      refine (show RowAt w.drew g e cur from hg).cell ?_
      rw [List.getElem?_take] at hu
      split at hu
      · simpa using hu
      · cases hu
    have hfo := run_firstCells_some (P := P) w.drew 1 n ⟨g, 0, none⟩ n cap (cur.toList.take n) (by rw [hol]; omega) holds
    simp [Builtin.append_, run_underlying ht, run_underlying ht2, sizeOf, typeInfo, hi, asInt, asIntOf, hw, hneg, h48, hroom, hsize, zeroValue, hz, hzc, show m ≠ 0 by omega, h63', h48', Question.forced, newRow, grownCap, hfo]

/-- The row behind a copy. -/
def spliced (cur : Array Value) (o : Nat) (news : List Value) : Array Value := (cur.toList.take o ++ news ++ cur.toList.drop (o + news.length)).toArray
theorem spliced_size (cur : Array Value) (o : Nat) (news : List Value) (h : o + news.length ≤ cur.size) : (spliced cur o news).size = cur.size := by
  simp [spliced]; omega
theorem run_copy_row (t t2 ty e : TypeId) (i : TypeInfo) (ht : P.underlying t = some (.slice e)) (hi : P.info? e = some i) (hsize : i.size = 1)
    (g o dl dc : Nat) (cur : Array Value) (hg : RowAt w g e cur) (a : Addr) (sl sc n : Nat) (hn : n = min sl dl) (ho : o + n ≤ cur.size)
    (news : List Value) (hl : news.length = n) (hnews : ∀ j u, news[j]? = some u → w.cell? (a.add j) = some u) (h1 : ∀ u ∈ news, u.oneCell' = true) :
    (Builtin.copy_ #[t, t2] ty #[.slice (some ⟨g, o, none⟩) dl dc, .slice (some a) sl sc]).run P w = .ok (.int .i64 (n : Nat)) (w.setRow g (spliced cur o news)) := by
  have hf := run_firstCells_some (P := P) w 1 n a sl sc news (by omega) hnews
  have hst := run_storeCells_row (P := P) g o e news 0 cur w hg (by omega) h1
  simp only [Nat.add_zero] at hst
  have hmin : Nat.min sl dl = n := hn.symm
  simp [Builtin.copy_, run_underlying ht, sizeOf, typeInfo, hi, hsize, Builtin.lenOf, hmin, hf, hst, goInt, spliced]

theorem run_make_row (t e : TypeId) (i : TypeInfo) (z : Value) (bytes : Nat) (ht : P.underlying t = some (.slice e)) (hi : P.info? e = some i) (hz : i.zero = some z)
    (hsize : i.size = 1) (hby : i.bytes = bytes) (hzs : z.cells = #[z]) (n : Nat) (h63 : n ≤ maxLen) (hbytes : n * bytes ≤ 140737488355328) :
    (Instr.makeSlice t (.int .i64 n) (.int .i64 n)).run P w = .ok (.slice (some ⟨w.heap.size, 0, none⟩) n n) (w.alloc (.cells (List.replicate n z).toArray e)) := by
  subst hby
  have hb : (i.bytes : Int) * (n : Int) ≤ 281474976710656 := by
    have h2 : ((n * i.bytes : Nat) : Int) ≤ 140737488355328 := by omega
    rw [Int.natCast_mul, Int.mul_comm] at h2
    omega
  have h := run_make (P := P) w t e i z ht hi hz .i64 .i64 n n (by omega) (by omega) hb (by simp only [maxLen] at h63; omega)
  rw [h]
  simp only [Int.toNat_natCast, hsize, Nat.mul_one]
  congr 3
  unfold madeCells
  rw [hzs]
  apply Array.ext
  · simp
  · intro j h1 h2; simp [Nat.mod_one]

theorem exec_copy {w w' : World} {o : Oper} {ρ : Operand → Value} {s x : Operand} {t u : TypeId} {v : Value} (ho : o.op = .call { callee := .builtin .copy, args := #[s, x], argTypes := #[t, u] })
    (h : (Builtin.copy_ #[t, u] o.type #[ρ s, ρ x]).run P w = .ok v w') : (execOp ρ o).run P w = .ok (.value v) w' := by
  unfold execOp
  simp only [ho, resolve, invoke, builtin, Sem.run_bind, Sem.run_pure, Result.andThen_ok, List.map_toArray, List.map_cons, List.map_nil, h]
theorem exec_append {w w' : World} {o : Oper} {ρ : Operand → Value} {s x : Operand} {t u : TypeId} {v : Value} (ho : o.op = .call { callee := .builtin .append, args := #[s, x], argTypes := #[t, u] })
    (h : (Builtin.append_ #[t, u] o.type #[ρ s, ρ x]).run P w = .ok v w') : (execOp ρ o).run P w = .ok (.value v) w' := by
  unfold execOp
  simp only [ho, resolve, invoke, builtin, Sem.run_bind, Sem.run_pure, Result.andThen_ok, List.map_toArray, List.map_cons, List.map_nil, h]

theorem row_splice {cur : Array Value} {a b c news : List Value} (h : cur.toList = a ++ (b ++ c)) (hl : news.length = b.length) {o : Nat} (ho : o = a.length) : (spliced cur o news).toList = a ++ (news ++ c) := by
  subst ho
  show cur.toList.take a.length ++ news ++ cur.toList.drop (a.length + news.length) = _
  rw [h, hl, List.take_left, ← List.drop_drop, List.drop_left, List.drop_left, List.append_assoc]
theorem row_wrs {cur : Array Value} {a b c b' : List Value} (h : cur.toList = a ++ (b ++ c)) (hl : b'.length = b.length) {o : Nat} (ho : o = a.length) : (wrs cur o b').toList = a ++ (b' ++ c) := by
  subst ho
  have : cur = (a ++ (b ++ c)).toArray := by rw [← h]
  rw [this, wrs_list b' b a c hl]
theorem row_cells {w : World} {g : Nat} {cur : Array Value} {e : TypeId} (hg : RowAt w g e cur) {a b c : List Value} (h : cur.toList = a ++ (b ++ c)) {o : Nat} (ho : o = a.length) :
    ∀ j u, b[j]? = some u → w.cell? ((⟨g, o, none⟩ : Addr).add j) = some u := by
  subst ho
  intro j u hu
  rw [Addr.add_lit]
  refine hg.cell ?_
  rw [← Array.getElem?_toList, h, List.getElem?_append_right (by omega), show a.length + j - a.length = j by omega, List.getElem?_append_left (List.getElem?_eq_some_iff.1 hu).1]
  exact hu
theorem row_take {cur : Array Value} {n : Nat} {bs : List Value} (h : cur.toList.take n = bs) : ∃ R, cur.toList = bs ++ R :=
  ⟨cur.toList.drop n, by rw [← h, List.take_append_drop]⟩
end
end Go.Proofs.YtlecnlnpgghmbaaGreatDoor

namespace Go.Proofs.YtlecnlnpgghmbaaGreatDoor
set_option linter.unusedVariables false
set_option linter.unusedSimpArgs false
open Go.RowKit Go.ChangeShapes Go.WideShapes Go.Deep
section
variable {H : Type} {enc : TypeId × Value → H} {P : Program} {w : World} {base : Nat} {spare : Nat → Bool} {held : Bool} {fuel : Nat} {t e : TypeId}
theorem float_cell {k : FloatKind} {v : Value} {x : DataW H × List MemPlace} (ht : P.underlying t = some (.float k)) (h : DataW.trod enc P w base spare held fuel t [v] = some x) : ∃ b, v = .float k b ∧ x.2 = [] := by
  cases fuel with
  | zero => simp [DataW.trod] at h
  | succ n =>
    unfold DataW.trod at h
    rw [ht] at h
    split at h <;> simp_all
    rw [← h.2]
theorem int_cell {k : IntKind} {v : Value} {x : DataW H × List MemPlace} (ht : P.underlying t = some (.int k)) (h : DataW.trod enc P w base spare held fuel t [v] = some x) : ∃ n, v = .int k n ∧ x.2 = [] ∧ (Lit.int k n).wf = true := by
  obtain ⟨n, h1, h2, h3⟩ := DataW.trod_int ht h
  exact ⟨n, by simpa using h1, by rw [h2], h3⟩
/-- A slice that came in: its cells are there. -/
def ArgRow (w : World) (a : Option Addr) (len cap : Nat) (f : Nat → Value) : Prop :=
  len ≤ cap ∧ (len = 0 ∨ ∃ b o, a = some ⟨b, o, none⟩ ∧ ∀ i, i < len → w.cell? ⟨b, o + i, none⟩ = some (f i))
theorem argRow_of {x : Addr} {len cap : Nat} {f : Nat → Value} (hl : len ≤ cap) (h : ∀ i, i < len → w.cell? (x.add i) = some (f i)) : ArgRow w (some x) len cap f := by
  refine ⟨hl, ?_⟩
  by_cases h0 : len = 0
  · exact .inl h0
  · right
    have hx : x.spot = none := by
      have := h 0 (by omega)
      simp only [Addr.add, if_pos] at this
      unfold World.cell? at this
      split at this
      · split at this
        · cases this
        · rename_i hs; simpa using hs
      · cases this
    obtain ⟨b, o, s⟩ := x
    simp only at hx
    subst hx
    refine ⟨b, o, rfl, fun i hi => ?_⟩
    have := h i hi
    rwa [add_plain] at this
theorem ints_arg {k : IntKind} {a : Option Addr} {len cap : Nat} {d : DataW H} {ps : List MemPlace} (ht : P.underlying t = some (.slice e)) (he : P.underlying e = some (.int k)) (hc : P.cellsOf e = 1)
    (h : DataW.Trod enc P w base spare held t (.slice a len cap) d ps) :
    ∃ zs : List Int, zs.length = len ∧ ArgRow w a len cap (fun i => .int k (zs.getD i 0)) ∧ ∀ n ∈ zs, (Lit.int k n).wf = true := by
  obtain ⟨fuel, hf⟩ := h
  rcases open_ints ht he hc hf with ⟨hcs, _⟩ | ⟨x, l, c, zs, hcs, _, hl, hm, hz, _, hcell, hwz⟩
  · simp [Value.cells] at hcs
    obtain ⟨rfl, rfl, rfl⟩ := hcs
    exact ⟨[], rfl, ⟨Nat.le_refl _, .inl rfl⟩, by simp⟩
  · simp [Value.cells] at hcs
    obtain ⟨rfl, rfl, rfl⟩ := hcs
    have hle : len ≤ zs.length := by rw [hz]; split <;> omega
    refine ⟨zs.take len, by simp; omega, argRow_of hl fun i hi => ?_, fun n hn => hwz n (List.mem_of_mem_take hn)⟩
    rw [hcell i (by omega)]
    simp [List.getD, List.getElem?_take, hi]
theorem strs_arg {a : Option Addr} {len cap : Nat} {d : DataW H} {ps : List MemPlace} (ht : P.underlying t = some (.slice e)) (he : P.underlying e = some .string) (hc : P.cellsOf e = 1)
    (h : DataW.Trod enc P w base spare held t (.slice a len cap) d ps) :
    ∃ zs : List ByteArray, zs.length = len ∧ ArgRow w a len cap (fun i => .string (zs.getD i ByteArray.empty)) := by
  obtain ⟨fuel, hf⟩ := h
  rcases open_slice1 ht hc hf with ⟨hcs, _⟩ | ⟨x, l, c, m, n, V, D, Pl, hcs, _, hl, hm, hmm, _, hV⟩
  · simp [Value.cells] at hcs
    obtain ⟨rfl, rfl, rfl⟩ := hcs
    exact ⟨[], rfl, ⟨Nat.le_refl _, .inl rfl⟩⟩
  · simp [Value.cells] at hcs
    obtain ⟨rfl, rfl, rfl⟩ := hcs
    have hle : len ≤ m := by rw [hmm]; split <;> omega
    have each : ∀ i, i < m → ∃ s : ByteArray, V i = .string s := fun i hi => by
      obtain ⟨s, hs, _⟩ := DataW.trod_string he (hV i hi).2
      exact ⟨s, by simpa using hs⟩
    obtain ⟨S, hS⟩ := choose_lt each
    refine ⟨(List.range len).map S, by simp, argRow_of hl fun i hi => ?_⟩
    rw [(hV i (by omega)).1, hS i (by omega)]
    simp [List.getD, hi]
/-- A slice of structs of two one-cell numbers that came in. -/
def RecRow (w : World) (a : Option Addr) (len cap : Nat) (f g : Nat → Value) : Prop :=
  len ≤ cap ∧ (len = 0 ∨ ∃ b o, a = some ⟨b, o, none⟩ ∧ ∀ i, i < len → w.cell? ⟨b, o + i * 2, none⟩ = some (f i) ∧ w.cell? ⟨b, o + i * 2 + 1, none⟩ = some (g i))
theorem recs_arg {f0 f1 : Field} {k0 k1 : IntKind} {a : Option Addr} {len cap : Nat} {d : DataW H} {ps : List MemPlace} (ht : P.underlying t = some (.slice e)) (he : P.underlying e = some (.struct #[f0, f1]))
    (ce : P.cellsOf e = 2) (o0 : f0.offset = 0) (o1 : f1.offset = 1) (c0 : P.cellsOf f0.type = 1) (c1 : P.cellsOf f1.type = 1) (u0 : P.underlying f0.type = some (.int k0)) (u1 : P.underlying f1.type = some (.int k1))
    (h : DataW.Trod enc P w base spare held t (.slice a len cap) d ps) :
    ∃ zs : List (Int × Int), zs.length = len ∧ RecRow w a len cap (fun i => .int k0 (zs.getD i (0, 0)).1) (fun i => .int k1 (zs.getD i (0, 0)).2) ∧ ∀ n ∈ zs, (Lit.int k0 n.1).wf = true ∧ (Lit.int k1 n.2).wf = true := by
  obtain ⟨fuel, hf⟩ := h
  rcases open_slice_pairs ht he ce o0 o1 c0 c1 hf with ⟨hcs, _⟩ | ⟨x, l, c, m, n, V0, V1, D0, D1, P0, P1, hcs, _, hl, hm, hmm, _, hV⟩
  · simp [Value.cells] at hcs
    obtain ⟨rfl, rfl, rfl⟩ := hcs
    exact ⟨[], rfl, ⟨Nat.le_refl _, .inl rfl⟩, by simp⟩
  · simp [Value.cells] at hcs
    obtain ⟨rfl, rfl, rfl⟩ := hcs
    have hle : len ≤ m := by rw [hmm]; split <;> omega
    have each : ∀ i, i < m → ∃ s : Int × Int, V0 i = .int k0 s.1 ∧ V1 i = .int k1 s.2 ∧ (Lit.int k0 s.1).wf = true ∧ (Lit.int k1 s.2).wf = true := fun i hi => by
      obtain ⟨_, _, g0, g1⟩ := hV i hi
      obtain ⟨n0, e0, _, w0⟩ := int_cell u0 g0
      obtain ⟨n1, e1, _, w1⟩ := int_cell u1 g1
      exact ⟨(n0, n1), e0, e1, w0, w1⟩
    obtain ⟨S, hS⟩ := choose_lt each
    refine ⟨(List.range len).map S, by simp, ⟨hl, ?_⟩, fun n hn => ?_⟩
    · by_cases h0 : len = 0
      · exact .inl h0
      · right
        obtain ⟨_, b, o, hx, hcells⟩ := argRow_of (w := w) (x := x) (len := 1) (cap := 1) (f := fun _ => V0 0) (Nat.le_refl _) (fun i hi => by
          have : i = 0 := by omega
          subst this
          simpa using (hV 0 (by omega)).1) |>.imp id (fun h => h.resolve_left (by omega))
        cases hx
        refine ⟨b, o, rfl, fun i hi => ?_⟩
        obtain ⟨g0, g1, _⟩ := hV i (by omega)
        rw [add_plain] at g0 g1
        rw [g0, show o + i * 2 + 1 = o + (i * 2 + 1) by omega, g1, (hS i (by omega)).1, (hS i (by omega)).2.1]
        simp [List.getD, hi]
    · obtain ⟨i, hi, rfl⟩ := List.mem_map.1 hn
      have := List.mem_range.1 hi
      exact (hS i (by omega)).2.2
end
end Go.Proofs.YtlecnlnpgghmbaaGreatDoor

/- Slices that a call has made itself, of elements of one cell. -/
namespace Go.Proofs.YtlecnlnpgghmbaaGreatDoor
set_option linter.unusedVariables false
set_option linter.unusedSimpArgs false
open Go.RowKit
/-- The slice value v holds n elements xs; its row lies in a block from B on. -/
def SliceIs (w : World) (B : Nat) (e : TypeId) (v : Value) (n : Nat) (xs : List Value) : Prop :=
  xs.length = n ∧ ((v = .slice none 0 0 ∧ n = 0) ∨ ∃ g cap cur, v = .slice (some ⟨g, 0, none⟩) n cap ∧ B ≤ g ∧ RowAt w g e cur ∧ cur.size = cap ∧ n ≤ cap ∧ cap ≤ maxLen ∧ cur.toList.take n = xs)
theorem SliceIs.nil (w : World) (B : Nat) (e : TypeId) : SliceIs w B e (.slice none 0 0) 0 [] := ⟨rfl, .inl ⟨rfl, rfl⟩⟩
section
variable {w : World} {B : Nat} {e : TypeId} {v : Value} {n : Nat} {xs : List Value}
theorem SliceIs.below (h : SliceIs w B e v n xs) {w' : World} (hb : Below w.heap.size w w') : SliceIs w' B e v n xs := by
  refine ⟨h.1, h.2.imp id ?_⟩
  rintro ⟨g, cap, cur, h1, h2, h3, h4⟩
  exact ⟨g, cap, cur, h1, h2, h3.keep (Chg.of_below (fun _ => False) hb) id, h4⟩
theorem SliceIs.arg (h : SliceIs w B e v n xs) : ∃ a cap, v = .slice a n cap ∧ ArgRow w a n cap (fun i => xs.getD i undef) := by
  rcases h.2 with ⟨rfl, rfl⟩ | ⟨g, cap, cur, rfl, _, h3, h4, h5, _, h7⟩
  · exact ⟨none, 0, rfl, Nat.le_refl _, .inl rfl⟩
  · refine ⟨some ⟨g, 0, none⟩, cap, rfl, h5, .inr ⟨g, 0, rfl, fun i hi => ?_⟩⟩
    have hx : xs[i]? = cur[i]? := by
      rw [← h7, List.getElem?_take_of_lt hi, Array.getElem?_toList]
    have hlt : i < xs.length := by rw [h.1]; exact hi
    rw [Nat.zero_add, h3.cell (v := xs.getD i undef) (by rw [← hx]; simp [List.getD, hlt])]
theorem run_append_local {P : Program} {t ty : TypeId} {i : TypeInfo} {z : Value} {bytes : Nat} (ht : P.underlying t = some (.slice e)) (hi : P.info? e = some i) (hz : i.zero = some z)
    (hsize : i.size = 1) (hby : i.bytes = bytes) (hzs : z.cells.size = 1) (h : SliceIs w B e v n xs) (hB : B ≤ w.heap.size)
    (a : Addr) (m c : Nat) (news : List Value) (hm : 0 < m) (hl : news.length = m) (hnews : ∀ j u, news[j]? = some u → w.cell? (a.add j) = some u) (h1 : ∀ u ∈ news, u.oneCell' = true)
    (h63 : n + m ≤ maxLen) (hbytes : (n + m) * bytes ≤ 140737488355328) :
    ∃ v' w', (Builtin.append_ #[t, t] ty #[v, .slice (some a) m c]).run P w = .ok v' w' ∧ SliceIs w' B e v' (n + m) (xs ++ news) ∧ Below B w w' := by
  have fin : ∀ (g : Option Nat) (olds : List Value) v' w', (∀ k, g = some k → B ≤ k) → olds = xs → Appended w e 1 g olds news (n + m) v' w' → SliceIs w' B e v' (n + m) (xs ++ news) ∧ Below B w w' := by
    rintro g olds v' w' hg rfl ⟨g', cap', cur', rfl, q1, q2, q3, q4, q5, q6, q7⟩
    refine ⟨⟨by rw [List.length_append, h.1, hl], .inr ⟨g', cap', cur', rfl, ?_, q1, by omega, q3, q4, by rw [← q5, Nat.mul_one]⟩⟩, belowChg (Below.refl _ _) q7 hB fun k hk _ => hg k hk.symm⟩
    rcases q6 with q6 | q6
    · exact hg g' q6.symm
    · omega
  rcases h.2 with ⟨rfl, rfl⟩ | ⟨g, cap, cur, rfl, h2, h3, h4, h5, h6, h7⟩
  · obtain ⟨v', w', hr, hp⟩ := run_append_row_nil (P := P) w t ty e i z 1 bytes ht hi hz hsize hby hzs a m c news hm (by omega) hnews (by omega) (by simpa using hbytes)
    have hx : [] = xs := (List.eq_nil_of_length_eq_zero h.1).symm
    refine ⟨v', w', hr, fin none [] v' w' (by simp) hx ?_⟩
    rw [Nat.zero_add]; exact hp
  · obtain ⟨v', w', hr, hp⟩ := run_append_row (P := P) w t ty e i z 1 bytes ht hi hz hsize hby hzs g n cap cur h3 (by omega) h5 h6 a m c news (by omega) hnews h1 h63 hbytes
    exact ⟨v', w', hr, fin (some g) _ v' w' (fun k hk => by cases hk; exact h2) (by rw [Nat.mul_one]; exact h7) hp⟩
/-- One element more, which the call has laid in a block of its own. -/
theorem run_append_one {P : Program} {t ty : TypeId} {i : TypeInfo} {z : Value} {bytes : Nat} (ht : P.underlying t = some (.slice e)) (hi : P.info? e = some i) (hz : i.zero = some z)
    (hsize : i.size = 1) (hby : i.bytes = bytes) (hzs : z.cells.size = 1) (h : SliceIs w B e v n xs) (hB : B ≤ w.heap.size) (u : Value) (hu : u.oneCell' = true)
    (h63 : n + 1 ≤ maxLen) (hbytes : (n + 1) * bytes ≤ 140737488355328) :
    ∃ v' w', (Builtin.append_ #[t, t] ty #[v, .slice (some ⟨w.heap.size, 0, none⟩) 1 1]).run P (w.alloc (.cells #[u] e)) = .ok v' w' ∧ SliceIs w' B e v' (n + 1) (xs ++ [u]) ∧ Below B w w' := by
  have hb : Below w.heap.size w (w.alloc (.cells #[u] e)) := (Below.refl _ _).alloc (Nat.le_refl _) _
  obtain ⟨v', w', hr, h2, h3⟩ := run_append_local (P := P) (ty := ty) ht hi hz hsize hby hzs (h.below hb) (by simp; omega) ⟨w.heap.size, 0, none⟩ 1 1 [u] (by omega) rfl (fun j x hx => by
    have hj : j = 0 := by have := (List.getElem?_eq_some_iff.1 hx).1; simpa using this
    subst hj
    rw [Addr.add_lit]
    refine cell_in (heap_new w _) ?_
    simpa using hx) (by simpa using hu) h63 hbytes
  exact ⟨v', w', hr, h2, (hb.mono hB).trans h3⟩
end
/-- An append in a region that does not draw, its run known. -/
theorem wpList_append_run {P : Program} {ops : Array Oper} {Q : Exit → Act → World → Prop} {rest : List Oper} {o : Oper} {a : Act} {w w' : World} {s x : Operand} {t u : TypeId} {v : Value} (hg : o.guard = none)
    (ho : o.op = .call { callee := .builtin .append, args := #[s, x], argTypes := #[t, u] }) (hr : (Builtin.append_ #[t, u] o.type #[a.eval s, a.eval x]).run P w = .ok v w')
    (h : wpList P ops Q rest (a.put o.dst v) w') : wpList P ops Q (o :: rest) a w :=
  wpList_plain hg fun K hK => by unfold Oper.wp; rw [exec_append ho hr]; exact hK _ _ h
end Go.Proofs.YtlecnlnpgghmbaaGreatDoor

/- Regions that draw their order: one walk in the text's order serves every order, where the operations that write (and calls) stand in one line, and the others read only what stays. -/
namespace Go.Proofs.YtlecnlnpgghmbaaGreatDoor
set_option linter.unusedVariables false
set_option linter.unusedSimpArgs false

/-- Operation i waits for operation k, by whatever road. -/
inductive Dep (md : Region.Mode) (ops : Array Oper) (k : Nat) : Nat → Prop
  | direct {i : Nat} {o : Oper} {e : Edge} (ho : ops[i]? = some o) (he : e ∈ o.after) (hb : Region.binds md e = true) (hk : e.on = k) : Dep md ops k i
  | trans {i : Nat} {o : Oper} {e : Edge} (ho : ops[i]? = some o) (he : e ∈ o.after) (hb : Region.binds md e = true) (hd : Dep md ops k e.on) : Dep md ops k i

def depB (md : Region.Mode) (ops : Array Oper) (k : Nat) : Nat → Nat → Bool
  | 0, _ => false
  | fuel + 1, i => match ops[i]? with
    | some o => o.after.any fun e => Region.binds md e && (e.on == k || (decide (k < e.on) && depB md ops k fuel e.on))
    | none => false
theorem depB_spec {md : Region.Mode} {ops : Array Oper} {k : Nat} : ∀ (fuel i : Nat), depB md ops k fuel i = true → Dep md ops k i
  | 0, i, h => by simp [depB] at h
  | fuel + 1, i, h => by
    unfold depB at h
    split at h
    · rename_i o ho
      obtain ⟨e, he, hb⟩ := Array.any_eq_true'.1 h
      simp only [Bool.and_eq_true, Bool.or_eq_true, beq_iff_eq] at hb
      obtain ⟨hb1, hb2⟩ := hb
      rcases hb2 with hb2 | hb2
      · exact .direct ho he hb1 hb2
      · exact .trans ho he hb1 (depB_spec fuel _ hb2.2)
    · cases h

section
variable {P : Program} {ops : Array Oper} {md : Region.Mode}

theorem apart_symm {x y : Oper} (h : x.apart ops y = true) : y.apart ops x = true := by
  obtain ⟨h1, h2, h3⟩ := Oper.apart_spec h
  unfold Oper.apart
  cases hx : x.dst <;> cases hy : y.dst <;> simp
  · exact h3 _ hy
  · exact h1 _ hx
  · exact ⟨⟨h3 _ hy, fun e => h2 _ hx (by rw [hy, e])⟩, h1 _ hx⟩
/-- What waits is listed behind what it waits for. -/
def Closed (md : Region.Mode) (ops : Array Oper) (listed : Array Bool) : Prop :=
  ∀ j o, ops[j]? = some o → listed.getD j false = true → ∀ e ∈ o.after, Region.binds md e = true → listed.getD e.on false = true
theorem Closed.set {listed : Array Bool} {i : Nat} (h : Closed md ops listed) (hi : i ∈ Region.ready md ops listed) : Closed md ops (listed.setIfInBounds i true) := by
  obtain ⟨_, oi, hoi, hall⟩ := mem_ready.1 hi
  intro j oj hj hl e he hb
  by_cases hij : i = j
  · subst hij
    have : oj = oi := Option.some.inj (hj.symm.trans hoi)
    subst this
    exact getD_set_true (hall e he hb)
  · rw [getD_set_ne false hij] at hl
    exact getD_set_true (h j oj hj hl e he hb)
theorem Closed.dep {listed : Array Bool} (h : Closed md ops listed) {k i : Nat} (hk : listed.getD k false = false) (hd : Dep md ops k i) :
    listed.getD i false = false ∧ i ∉ Region.ready md ops listed := by
  induction hd with
  | direct ho he hb hek =>
    subst hek
    constructor
    · cases hl : listed.getD _ false
      · rfl
      · rw [h _ _ ho hl _ he hb] at hk; cases hk
    · intro hr
      obtain ⟨_, o', ho', hall⟩ := mem_ready.1 hr
      cases Option.some.inj (ho.symm.trans ho')
      rw [hall _ he hb] at hk; cases hk
  | trans ho he hb _ ih =>
    constructor
    · cases hl : listed.getD _ false
      · rfl
      · rw [h _ _ ho hl _ he hb] at ih; cases ih.1
    · intro hr
      obtain ⟨_, o', ho', hall⟩ := mem_ready.1 hr
      cases Option.some.inj (ho.symm.trans ho')
      rw [hall _ he hb] at ih; cases ih.1

/-- One operation hands back the value and leaves the world. -/
def calmAt (P : Program) (o : Oper) (a : Act) (v : Value) (w : World) : Prop :=
  (execOp a.eval o).run P w = .ok (.value v) w ∨ ((execOp a.eval o).run P w = .ok .skip w ∧ v = undef)
theorem calmAt_det {o : Oper} {a : Act} {v v' : Value} {w : World} (h : calmAt P o a v w) (h' : calmAt P o a v' w) : v = v' := by
  rcases h with h | ⟨h, rfl⟩ <;> rcases h' with h' | ⟨h', rfl⟩ <;> rw [h] at h' <;> cases h' <;> rfl

def Calm (P : Program) (ops : Array Oper) (C : World → Prop) (o : Oper) (v : Value) (a : Act) : Prop :=
  (Region.wanted o (yielded ops a.tmps) = true ∧ ∀ w, C w → calmAt P o a v w) ∨ (Region.wanted o (yielded ops a.tmps) = false ∧ v = undef)

variable {C : World → Prop}
theorem Calm.of_same {o : Oper} {v : Value} {a a' : Act} (hy : Calm P ops C o v a) (he : execOp a'.eval o = execOp a.eval o)
    (hw : Region.wanted o (yielded ops a'.tmps) = Region.wanted o (yielded ops a.tmps)) : Calm P ops C o v a' := by
  unfold Calm calmAt at *
  rw [he, hw]
  exact hy
theorem Calm.det {o : Oper} {v v' : Value} {a : Act} {w : World} (hC : C w) (h : Calm P ops C o v a) (h' : Calm P ops C o v' a) : v = v' := by
  rcases h with ⟨h1, h⟩ | ⟨h1, rfl⟩ <;> rcases h' with ⟨h2, h'⟩ | ⟨h2, rfl⟩
  · exact calmAt_det (h w hC) (h' w hC)
  · rw [h1] at h2; cases h2
  · rw [h1] at h2; cases h2
  · rfl

def QF : Exit → Act → World → Prop := fun _ _ _ => False

/-- An operation whose run is followed as it stands. -/
def loudOp (P : Program) (ops : Array Oper) (o : Oper) (K : Act → World → Prop) (a : Act) (w : World) : Prop :=
  if Region.wanted o (yielded ops a.tmps) then o.wp P a w K QF else K (a.put o.dst undef) w
theorem loudOp_mono {o : Oper} {K K' : Act → World → Prop} {a : Act} {w : World} (h : ∀ a w, K a w → K' a w) (hh : loudOp P ops o K a w) : loudOp P ops o K' a w := by
  unfold loudOp at *
  split
  · rename_i hw; simp only [hw, if_true] at hh; exact Oper.wp_mono h hh
  · rename_i hw; simp only [hw] at hh; exact h _ _ hh

/-- There is an end to it. -/
theorem loudOp_some {o : Oper} {K : Act → World → Prop} {a : Act} {w : World} (h : loudOp P ops o K a w) : ∃ ds u w', K (({ a with defers := ds } : Act).put o.dst u) w' := by
  unfold loudOp at h
  split at h
  · unfold Oper.wp at h
    generalize (execOp a.eval o).run P w = r at h
    cases r with
    | ok n w' =>
      cases n <;> simp only [Oper.upon] at h
      case value u => exact ⟨a.defers, u, w', h⟩
      case skip => exact ⟨a.defers, undef, w', h⟩
      case defer d => exact ⟨_, undef, w', h⟩
      case enter f args =>
        obtain ⟨e, w'', _, hR, _⟩ := h []
        cases e with
        | returned v => exact ⟨a.defers, v, w'', hR⟩
        | panicked c => exact hR.elim
        | outgrown => obtain ⟨_, _, hR⟩ := hR; exact hR.elim
      case row row args =>
        obtain ⟨v, w'', hR, _⟩ := h default []
        exact ⟨a.defers, v, w'', hR⟩
    | halt x w' => cases x <;> simp only [Oper.upon, QF] at h
  · exact ⟨a.defers, undef, w, h⟩

theorem loudOp_pull {oi oj : Oper} {v : Value} (hap : oi.apart ops oj = true) (hsj : ∀ cs b, oj.op ≠ .select cs b) {K : Act → World → Prop} {a : Act} {w : World}
    (h : loudOp P ops oj (fun a' w' => K (a'.put oi.dst v) w') a w) : loudOp P ops oj K (a.put oi.dst v) w := by
  obtain ⟨h1, h2, h3⟩ := Oper.apart_spec hap
  unfold loudOp at *
  rw [wanted_put oj a oi.dst v h1]
  split
  · rename_i hw
    simp only [hw, if_true] at h
    unfold Oper.wp at *
    rw [execOp_put oj hsj a oi.dst v h1]
    generalize (execOp a.eval oj).run P w = r at *
    cases r with
    | ok n w' =>
      cases n <;> simp only [Oper.upon] at h ⊢
      case value u => rw [Act.put_comm a v u h2]; exact h
      case skip => rw [Act.put_comm a v undef h2]; exact h
      case defer d => rw [Act.put_defers, Act.put_comm _ v undef h2]; exact h
      case enter f args =>
        refine Calls.mono h fun e w'' he => ?_
        cases e with
        | returned u => show K ((a.put oi.dst v).put oj.dst u) w''; rw [Act.put_comm a v u h2]; exact he
        | panicked c => exact he
        | outgrown => exact he
      case row row args => exact Rows.mono h fun u w'' he => by rw [Act.put_comm a v u h2]; exact he
    | halt x w' => cases x <;> simp only [Oper.upon] at h ⊢ <;> exact h
  · rename_i hw
    simp only [hw] at h
    rw [Act.put_comm a v undef h2]; exact h
theorem loudOp_push {oi oj : Oper} {v : Value} (hap : oi.apart ops oj = true) (hsj : ∀ cs b, oj.op ≠ .select cs b) {K : Act → World → Prop} {a : Act} {w : World}
    (h : loudOp P ops oj K (a.put oi.dst v) w) : loudOp P ops oj (fun a' w' => K (a'.put oi.dst v) w') a w := by
  obtain ⟨h1, h2, h3⟩ := Oper.apart_spec hap
  unfold loudOp at *
  rw [wanted_put oj a oi.dst v h1] at h
  split
  · rename_i hw
    simp only [hw, if_true] at h
    unfold Oper.wp at *
    rw [execOp_put oj hsj a oi.dst v h1] at h
    generalize (execOp a.eval oj).run P w = r at *
    cases r with
    | ok n w' =>
      cases n <;> simp only [Oper.upon] at h ⊢
      case value u => rw [← Act.put_comm a v u h2]; exact h
      case skip => rw [← Act.put_comm a v undef h2]; exact h
      case defer d => rw [← Act.put_comm _ v undef h2, ← Act.put_defers]; exact h
      case enter f args =>
        refine Calls.mono h fun e w'' he => ?_
        cases e with
        | returned u => show K ((a.put oj.dst u).put oi.dst v) w''; rw [← Act.put_comm a v u h2]; exact he
        | panicked c => exact he
        | outgrown => exact he
      case row row args => exact Rows.mono h fun u w'' he => by rw [← Act.put_comm a v u h2]; exact he
    | halt x w' => cases x <;> simp only [Oper.upon] at h ⊢ <;> exact h
  · rename_i hw
    simp only [hw] at h
    rw [← Act.put_comm a v undef h2]; exact h

/-- What operation j does not look at, it is calm without. -/
theorem Calm.put {o : Oper} {v : Value} {a : Act} (hs : ∀ cs b, o.op ≠ .select cs b) (hy : Calm P ops C o v a) {d : Option Tmp} (h : ∀ t, d = some t → t ∉ o.looksAt ops) (ds : List Deferred) (u : Value) :
    Calm P ops C o v (({ a with defers := ds } : Act).put d u) :=
  hy.of_same ((execOp_put o hs { a with defers := ds } d u h).trans rfl) ((wanted_put o { a with defers := ds } d u h).trans rfl)
theorem Calm.unput {o : Oper} {v : Value} {a : Act} (hs : ∀ cs b, o.op ≠ .select cs b) {d : Option Tmp} (h : ∀ t, d = some t → t ∉ o.looksAt ops) {ds : List Deferred} {u : Value}
    (hy : Calm P ops C o v (({ a with defers := ds } : Act).put d u)) : Calm P ops C o v a :=
  hy.of_same ((execOp_put o hs { a with defers := ds } d u h).trans rfl).symm ((wanted_put o { a with defers := ds } d u h).trans rfl).symm

/-! The plan of a region: L: the operations that are followed as they stand; D: those that are calm in every world; the others are calm in the class C, which holds till operation m. -/
structure Plan where
  L : List Nat
  D : List Nat
  m : Nat
def Plan.cls (p : Plan) (C : World → Prop) (i : Nat) : World → Prop := if p.D.contains i then fun _ => True else C
def stepC (P : Program) (ops : Array Oper) (p : Plan) (C : World → Prop) (i : Nat) (K : Act → World → Prop) (a : Act) (w : World) : Prop :=
  match ops[i]? with
  | none => K a w
  | some o => if p.L.contains i then loudOp P ops o K a w else ∃ v, Calm P ops (p.cls C i) o v a ∧ K (a.put o.dst v) w
theorem stepC_mono {p : Plan} {i : Nat} {K K' : Act → World → Prop} {a : Act} {w : World} (h : ∀ a w, K a w → K' a w) (hh : stepC P ops p C i K a w) : stepC P ops p C i K' a w := by
  unfold stepC at *
  split
  · simp_all
  · rename_i o ho
    simp only [ho] at hh
    split
    · rename_i hl; simp only [hl, if_true] at hh; exact loudOp_mono h hh
    · rename_i hl; simp only [hl] at hh; obtain ⟨v, h1, h2⟩ := hh; exact ⟨v, h1, h _ _ h2⟩

def wpAnyC (P : Program) (md : Region.Mode) (ops : Array Oper) (p : Plan) (C : World → Prop) (Q : Act → World → Prop) : Nat → Array Bool → Act → World → Prop
  | 0, listed, a, w => (listed.getD p.m false = false → C w) ∧ Region.ready md ops listed = [] ∧ Q a w
  | fuel + 1, listed, a, w => (listed.getD p.m false = false → C w) ∧ (Region.ready md ops listed = [] → Q a w) ∧
    ∀ i ∈ Region.ready md ops listed, stepC P ops p C i (wpAnyC P md ops p C Q fuel (listed.setIfInBounds i true)) a w

/-- In every state what is not loud and not calm everywhere comes before m. -/
def Plan.before (p : Plan) (md : Region.Mode) (ops : Array Oper) : Prop := ∀ i, i ∉ p.L → i ∉ p.D → i < ops.size → (ops.size ≤ p.m ∨ (i ≠ p.m ∧ Dep md ops i p.m))

theorem cls_holds {p : Plan} {listed : Array Bool} {i : Nat} {w : World} (hp : p.before md ops) (hc : Closed md ops listed) (hsz : listed.size = ops.size) (hl : i ∉ p.L) (hi : i < ops.size)
    (hun : listed.getD i false = false) (h : listed.getD p.m false = false → C w) : p.cls C i w := by
  unfold Plan.cls
  split
  · trivial
  · rename_i hd
    refine h ?_
    rcases hp i hl (by simpa using hd) hi with h1 | ⟨_, h1⟩
    · simp [Array.getElem?_eq_none (by omega : listed.size ≤ p.m)]
    · exact (hc.dep hun h1).1

theorem unl {listed : Array Bool} {i : Nat} (h : listed.getD i true = false) : listed.getD i false = false := by
  rcases Nat.lt_or_ge i listed.size with h' | h'
  · simp [h'] at h ⊢; exact h
  · simp [Array.getElem?_eq_none h'] at h

variable {Q : Act → World → Prop} {p : Plan}
theorem wpAnyC_C {fuel : Nat} {listed : Array Bool} {a : Act} {w : World} (h : wpAnyC P md ops p C Q fuel listed a w) : listed.getD p.m false = false → C w := by
  cases fuel with
  | zero => exact h.1
  | succ f => exact h.1

/-- A calm operation may be taken first. -/
theorem wpAnyC_first (hsel : ∀ (j : Nat) (o : Oper) cs b, ops[j]? = some o → o.op ≠ .select cs b) (hp : p.before md ops) {i : Nat} {oi : Oper} {v : Value} (hi : ops[i]? = some oi) (hiL : i ∉ p.L) :
    ∀ (fuel : Nat) (listed : Array Bool) (a : Act) (w : World), Closed md ops listed → listed.size = ops.size →
      (∀ j oj, ops[j]? = some oj → j ≠ i → listed.getD j true = false → (∀ e ∈ oj.after, Region.binds md e = true → e.on ≠ i) → oi.apart ops oj = true) →
      i ∈ Region.ready md ops listed → Calm P ops (p.cls C i) oi v a → (listed.getD p.m false = false → C w) → i ≠ p.m →
      wpAnyC P md ops p C Q fuel (listed.setIfInBounds i true) (a.put oi.dst v) w → wpAnyC P md ops p C Q (fuel + 1) listed a w := by
  have hsi := fun cs b => hsel i oi cs b hi
  have hilt : i < ops.size := (Array.getElem?_eq_some_iff.1 hi).1
  intro fuel
  induction fuel with
  | zero =>
    intro listed a w hcl hsz _ hr hy hC him H
    refine ⟨hC, fun h => (by rw [h] at hr; cases hr), fun j hj => ?_⟩
    by_cases hji : j = i
    · subst hji
      unfold stepC
      simp only [hi, show p.L.contains j = false by simpa using hiL, Bool.false_eq_true, if_false]
      exact ⟨v, hy, H⟩
    · have := ready_mono hj hji
      rw [H.2.1] at this
      cases this
  | succ fuel ih =>
    intro listed a w hcl hsz hfree hr hy hC him H
    refine ⟨hC, fun h => (by rw [h] at hr; cases hr), fun j hj => ?_⟩
    by_cases hji : j = i
    · subst hji
      unfold stepC
      simp only [hi, show p.L.contains j = false by simpa using hiL, Bool.false_eq_true, if_false]
      exact ⟨v, hy, H⟩
    · have h1 := H.2.2 j (ready_mono hj hji)
      obtain ⟨hjun, oj, hoj, hall⟩ := mem_ready.1 hj
      have hjlt : j < ops.size := (Array.getElem?_eq_some_iff.1 hoj).1
      have hiun : listed.getD i true = false := (mem_ready.1 hr).1
      have hnot : ∀ e ∈ oj.after, Region.binds md e = true → e.on ≠ i := fun e he hb heq => by
        have h1 := hall e he hb
        rw [heq, unl hiun] at h1; cases h1
      have hap := hfree j oj hoj hji hjun hnot
      obtain ⟨q1, q2, q3⟩ := Oper.apart_spec hap
      have hsj := fun cs b => hsel j oj cs b hoj
      have hcl' := hcl.set hj
      have hfree' : ∀ k ok, ops[k]? = some ok → k ≠ i → (listed.setIfInBounds j true).getD k true = false →
          (∀ e ∈ ok.after, Region.binds md e = true → e.on ≠ i) → oi.apart ops ok = true := fun k ok hk hki hun hno => by
        refine hfree k ok hk hki ?_ hno
        by_cases hjk : j = k
        · subst hjk; exact hjun
        · rw [getD_set_ne true hjk] at hun; exact hun
      have next : ∀ a' w', Calm P ops (p.cls C i) oi v a' → wpAnyC P md ops p C Q fuel ((listed.setIfInBounds i true).setIfInBounds j true) (a'.put oi.dst v) w' →
          wpAnyC P md ops p C Q (fuel + 1) (listed.setIfInBounds j true) a' w' := fun a' w' hy' h' => by
        rw [Array.setIfInBounds_comm _ _ (Ne.symm hji)] at h'
        refine ih _ a' w' hcl' (by simp [hsz]) hfree' (ready_mono hr (Ne.symm hji)) hy' ?_ him h'
        intro hm
        exact wpAnyC_C h' (by rw [getD_set_ne false him]; exact hm)
      unfold stepC at h1 ⊢
      simp only [hoj] at h1 ⊢
      split
      · rename_i hl
        simp only [hl, if_true] at h1
        have h2 := loudOp_push hap hsj h1
        have key : ∀ (K : Act → World → Prop), loudOp P ops oj K a w → loudOp P ops oj (fun a' w' => K a' w' ∧ Calm P ops (p.cls C i) oi v a') a w := fun K hK => by
          unfold loudOp at hK ⊢
          split
          · rename_i hw
            simp only [hw, if_true] at hK
            unfold Oper.wp at hK ⊢
            generalize (execOp a.eval oj).run P w = r at *
            cases r with
            | ok n w' =>
              cases n <;> simp only [Oper.upon] at hK ⊢
              case value u => exact ⟨hK, hy.put hsi q3 a.defers u⟩
              case skip => exact ⟨hK, hy.put hsi q3 a.defers _⟩
              case defer d => exact ⟨hK, hy.put hsi q3 _ _⟩
              case enter f args =>
                refine Calls.mono hK fun e w'' he => ?_
                cases e with
                | returned u => exact ⟨he, hy.put hsi q3 a.defers u⟩
                | panicked c => exact he
                | outgrown => exact he
              case row row args => exact Rows.mono hK fun u w'' he => ⟨he, hy.put hsi q3 a.defers u⟩
            | halt x w' => cases x <;> simp only [Oper.upon] at hK ⊢ <;> exact hK
          · rename_i hw
            simp only [hw] at hK
            exact ⟨hK, hy.put hsi q3 a.defers _⟩
        exact loudOp_mono (fun a' w' h3 => next a' w' h3.2 h3.1) (key _ h2)
      · rename_i hl
        simp only [hl] at h1
        obtain ⟨u, hu, hK⟩ := h1
        refine ⟨u, ?_, next _ w (hy.put hsi q3 a.defers u) ?_⟩
        · exact Calm.unput hsj (ds := a.defers) q1 hu
        · rw [← Act.put_comm a v u q2]; exact hK

/-- An operation that is followed as it stands may be taken first, if all others of its kind wait for it. -/
theorem wpAnyC_loud (hsel : ∀ (j : Nat) (o : Oper) cs b, ops[j]? = some o → o.op ≠ .select cs b) (hp : p.before md ops) (hmL : p.m < ops.size → p.m ∈ p.L) {k : Nat} {ok : Oper} (hk : ops[k]? = some ok) (hkL : k ∈ p.L) :
    ∀ (fuel : Nat) (listed : Array Bool) (a : Act) (w : World), Closed md ops listed → listed.size = ops.size →
      (∀ j oj, ops[j]? = some oj → j ≠ k → listed.getD j true = false → (∀ e ∈ oj.after, Region.binds md e = true → e.on ≠ k) → ok.apart ops oj = true) →
      (∀ j, j ∈ p.L → j ≠ k → j < ops.size → listed.getD j true = false → Dep md ops k j) →
      k ∈ Region.ready md ops listed → (listed.getD p.m false = false → C w) →
      stepC P ops p C k (wpAnyC P md ops p C Q fuel (listed.setIfInBounds k true)) a w → wpAnyC P md ops p C Q (fuel + 1) listed a w := by
  have hsk := fun cs b => hsel k ok cs b hk
  have hklt : k < ops.size := (Array.getElem?_eq_some_iff.1 hk).1
  have hkc : p.L.contains k = true := by simpa using hkL
  intro fuel
  induction fuel with
  | zero =>
    intro listed a w hcl hsz hfree hord hr hC H
    refine ⟨hC, fun h => (by rw [h] at hr; cases hr), fun i hi => ?_⟩
    by_cases hik : i = k
    · subst hik; exact H
    · exfalso
      unfold stepC at H
      simp only [hk, hkc, if_true] at H
      obtain ⟨ds, u, w', hK⟩ := loudOp_some H
      have := ready_mono hi hik
      rw [hK.2.1] at this
      cases this
  | succ f ih =>
    intro listed a w hcl hsz hfree hord hr hC H
    refine ⟨hC, fun h => (by rw [h] at hr; cases hr), fun i hi => ?_⟩
    by_cases hik : i = k
    · subst hik; exact H
    · obtain ⟨hiun, oi, hoi, hall⟩ := mem_ready.1 hi
      have hkun := (mem_ready.1 hr).1
      have hilt : i < ops.size := (Array.getElem?_eq_some_iff.1 hoi).1
      have hiL : i ∉ p.L := fun hL => (hcl.dep (unl hkun) (hord i hL hik hilt hiun)).2 hi
      have hic : p.L.contains i = false := by simpa using hiL
      have hnot : ∀ e ∈ oi.after, Region.binds md e = true → e.on ≠ k := fun e he hb heq => by
        have h1 := hall e he hb
        rw [heq, unl hkun] at h1; cases h1
      have hap := hfree i oi hoi hik hiun hnot
      obtain ⟨q1, q2, q3⟩ := Oper.apart_spec hap
      have hsi := fun cs b => hsel i oi cs b hoi
      have him : i ≠ p.m := fun e => hiL (e ▸ hmL (e ▸ hilt))
      unfold stepC at H
      simp only [hk, hkc, if_true] at H
      -- what i hands back
      obtain ⟨v, hv⟩ : ∃ v, Calm P ops (p.cls C i) oi v a := by
        obtain ⟨ds, u, w', hK⟩ := loudOp_some H
        have h2 := hK.2.2 i (ready_mono hi hik)
        unfold stepC at h2
        simp only [hoi, hic, Bool.false_eq_true, if_false] at h2
        obtain ⟨v, h3, _⟩ := h2
        exact ⟨v, Calm.unput hsi q1 h3⟩
      have hck : Closed md ops (listed.setIfInBounds k true) := hcl.set hr
      -- behind k, i is taken
      have H2 : loudOp P ops ok (fun a' w' => wpAnyC P md ops p C Q f ((listed.setIfInBounds k true).setIfInBounds i true) (a'.put oi.dst v) w') a w := by
        have key : ∀ (K : Act → World → Prop), loudOp P ops ok K a w → loudOp P ops ok (fun a' w' => K a' w' ∧ Calm P ops (p.cls C i) oi v a') a w := fun K hK => by
          unfold loudOp at hK ⊢
          split
          · rename_i hw
            simp only [hw, if_true] at hK
            unfold Oper.wp at hK ⊢
            generalize (execOp a.eval ok).run P w = r at *
            cases r with
            | ok n w' =>
              cases n <;> simp only [Oper.upon] at hK ⊢
              case value u => exact ⟨hK, hv.put hsi q1 a.defers u⟩
              case skip => exact ⟨hK, hv.put hsi q1 a.defers _⟩
              case defer d => exact ⟨hK, hv.put hsi q1 _ _⟩
              case enter f args =>
                refine Calls.mono hK fun e w'' he => ?_
                cases e with
                | returned u => exact ⟨he, hv.put hsi q1 a.defers u⟩
                | panicked c => exact he
                | outgrown => exact he
              case row row args => exact Rows.mono hK fun u w'' he => ⟨he, hv.put hsi q1 a.defers u⟩
            | halt x w' => cases x <;> simp only [Oper.upon] at hK ⊢ <;> exact hK
          · rename_i hw
            simp only [hw] at hK
            exact ⟨hK, hv.put hsi q1 a.defers _⟩
        refine loudOp_mono (fun a' w' h3 => ?_) (key _ H)
        obtain ⟨h3, hcalm⟩ := h3
        have h4 := h3.2.2 i (ready_mono hi hik)
        unfold stepC at h4
        simp only [hoi, hic, Bool.false_eq_true, if_false] at h4
        obtain ⟨v', h5, h6⟩ := h4
        have hun' : (listed.setIfInBounds k true).getD i false = false := by rw [getD_set_ne false (Ne.symm hik)]; exact unl hiun
        have : v' = v := h5.det (cls_holds hp hck (by simp [hsz]) hiL hilt hun' h3.1) hcalm
        rw [← this]; exact h6
      have H3 := loudOp_pull (K := wpAnyC P md ops p C Q f ((listed.setIfInBounds i true).setIfInBounds k true)) (w := w) (a := a) (v := v)
        (apart_symm hap) hsk (by
          rw [Array.setIfInBounds_comm _ _ hik]; exact H2)
      unfold stepC
      simp only [hoi, hic, Bool.false_eq_true, if_false]
      refine ⟨v, hv, ih _ _ w (hcl.set hi) (by simp [hsz]) ?_ ?_ (ready_mono hr (Ne.symm hik)) ?_ ?_⟩
      · intro j oj hj hjk hun hno
        refine hfree j oj hj hjk ?_ hno
        by_cases hij : i = j
        · subst hij; exact hiun
        · rw [getD_set_ne true hij] at hun; exact hun
      · intro j hjL hjk hjlt hun
        refine hord j hjL hjk hjlt ?_
        rw [getD_set_ne true (fun e => by subst e; exact hiL hjL)] at hun; exact hun
      · intro hm; rw [getD_set_ne false him] at hm; exact hC hm
      · unfold stepC
        simp only [hk, hkc, if_true]
        exact H3

/-! ### The text's order -/
/-- The walk in the text's order. -/
def wpC (P : Program) (ops : Array Oper) (p : Plan) (C : World → Prop) (Q : Act → World → Prop) : Nat → List Oper → Act → World → Prop
  | _, [], a, w => Q a w
  | k, o :: l, a, w =>
    if p.L.contains k then loudOp P ops o (fun a' w' => (k < p.m → C w') ∧ wpC P ops p C Q (k + 1) l a' w') a w
    else ∃ v, Calm P ops (p.cls C k) o v a ∧ (k < p.m → C w) ∧ wpC P ops p C Q (k + 1) l (a.put o.dst v) w

def Plan.okB (p : Plan) (md : Region.Mode) (ops : Array Oper) : Bool :=
  Region.lexB md ops && (decide (ops.size ≤ p.m) || p.L.contains p.m) &&
  (List.range ops.size).all fun i => if p.L.contains i then p.L.all fun k => decide (i ≤ k) || decide (ops.size ≤ k) || depB md ops k ops.size i
    else p.D.contains i || decide (ops.size ≤ p.m) || (i != p.m && depB md ops i ops.size p.m)

theorem wpAnyC_lex (hs : Region.noSelect ops = true) (hp : p.before md ops) (hmL : p.m < ops.size → p.m ∈ p.L)
    (hord : ∀ k j, k ∈ p.L → j ∈ p.L → k < j → j < ops.size → Dep md ops k j) : ∀ (l : List Oper) (k : Nat) (listed : Array Bool) (a : Act) (w : World), k + l.length = ops.size → (∀ j, l[j]? = ops[k + j]?) →
    Closed md ops listed → listed.size = ops.size → (∀ j, j < ops.size → listed.getD j false = decide (j < k)) →
    Region.lexFrom md ops l.length k listed = true → (k ≤ p.m → C w) → wpC P ops p C Q k l a w → wpAnyC P md ops p C Q l.length listed a w
  | [], k, listed, a, w, hk, hl, hcl, hsz, hlist, hB, hC, h => by
    simp at hk
    refine ⟨fun hm => hC ?_, by simpa [Region.lexFrom] using hB, h⟩
    rcases Nat.lt_or_ge p.m ops.size with h1 | h1
    · rw [hlist _ h1] at hm
      have := of_decide_eq_false hm
      omega
    · omega
  | o :: l, k, listed, a, w, hk, hl, hcl, hsz, hlist, hB, hC, h => by
    have h0 : ops[k]? = some o := by simpa using (hl 0).symm
    have hklt : k < ops.size := (Array.getElem?_eq_some_iff.1 h0).1
    simp only [List.length_cons] at hk
    simp only [List.length_cons, Region.lexFrom, Bool.and_eq_true] at hB
    obtain ⟨⟨hr, hf⟩, hB'⟩ := hB
    have hr' : k ∈ Region.ready md ops listed := by simpa using hr
    have hcl' := hcl.set hr'
    have hlist' : ∀ j, j < ops.size → (listed.setIfInBounds k true).getD j false = decide (j < k + 1) := fun j hj => by
      by_cases hjk : k = j
      · subst hjk; simp [hsz, hklt]
      · rw [getD_set_ne false hjk, hlist j hj]; simp; omega
    have hCw : listed.getD p.m false = false → C w := fun hm => hC (by
      rcases Nat.lt_or_ge p.m ops.size with h1 | h1
      · rw [hlist _ h1] at hm
        have := of_decide_eq_false hm
        omega
      · omega)
    have ih := fun a' w' (h' : (k < p.m → C w') ∧ wpC P ops p C Q (k + 1) l a' w') => wpAnyC_lex hs hp hmL hord l (k + 1) _ a' w' (by omega) (fun j => by have := hl (j + 1); simpa [Nat.add_assoc, Nat.add_comm 1 j] using this) hcl' (by simp [hsz]) hlist' hB' (fun hk => h'.1 hk) h'.2
    have hfree := Region.free_spec h0 hf
    by_cases hkL : k ∈ p.L
    · refine wpAnyC_loud (Region.noSelect_spec hs) hp hmL h0 hkL l.length listed a w hcl hsz hfree (fun j hjL hjk hjlt hun => hord k j hkL hjL ?_ hjlt) hr' hCw (stepC_mono ih (by unfold wpC at h; unfold stepC; simp only [h0]; simp only [show p.L.contains k = true by simpa using hkL, if_true] at h ⊢; exact h))
      have h1 := unl hun
      rw [hlist j hjlt] at h1
      have := of_decide_eq_false h1
      omega
    · have hkm : k ≠ p.m := fun e => hkL (e ▸ hmL (e ▸ hklt))
      unfold wpC at h
      simp only [show p.L.contains k = false by simpa using hkL, Bool.false_eq_true, if_false] at h
      obtain ⟨v, hy, hK⟩ := h
      exact wpAnyC_first (Region.noSelect_spec hs) hp h0 hkL l.length listed a w hcl hsz hfree hr' hy hCw hkm (ih _ _ hK)

theorem wpAny_of_C {Q' : Exit → Act → World → Prop} (hQ : ∀ a w, Q a w → Q' .normal a w) (hp : p.before md ops) : ∀ (fuel : Nat) (listed : Array Bool) (a : Act) (w : World), Closed md ops listed → listed.size = ops.size →
    wpAnyC P md ops p C Q fuel listed a w → wpAny P md ops Q' fuel listed a w
  | 0, _, _, _, _, _, h => ⟨h.2.1, hQ _ _ h.2.2⟩
  | fuel + 1, listed, a, w, hcl, hsz, h => ⟨fun h0 => hQ _ _ (h.2.1 h0), fun i hi => by
      have h1 := h.2.2 i hi
      obtain ⟨hiun, o, ho, _⟩ := mem_ready.1 hi
      have next := fun a' w' => wpAny_of_C hQ hp fuel (listed.setIfInBounds i true) a' w' (hcl.set hi) (by simp [hsz])
      unfold stepC at h1
      unfold wpOp
      simp only [ho] at h1 ⊢
      by_cases hl : p.L.contains i = true
      · simp only [hl, if_true] at h1
        unfold loudOp at h1
        split
        · rename_i hw
          simp only [hw, if_true] at h1
          refine .inl ?_
          unfold Oper.wp at *
          generalize (execOp a.eval o).run P w = r at *
          cases r with
          | ok n w' =>
            cases n <;> simp only [Oper.upon] at h1 ⊢
            case value u => exact next _ _ h1
            case skip => exact next _ _ h1
            case defer d => exact next _ _ h1
            case enter f args =>
              refine Calls.mono h1 fun e w'' he => ?_
              cases e with
              | returned u => exact next _ _ he
              | panicked c => exact he.elim
              | outgrown => obtain ⟨_, _, he⟩ := he; exact he.elim
            case row row args => exact Rows.mono h1 fun u w'' he => next _ _ he
          | halt x w' => cases x <;> simp only [Oper.upon, QF] at h1
        · rename_i hw
          simp only [hw] at h1
          exact next _ _ h1
      · simp only [hl] at h1
        obtain ⟨v, hy, hK⟩ := h1
        have hiL : i ∉ p.L := by simpa using hl
        have hilt : i < ops.size := (Array.getElem?_eq_some_iff.1 ho).1
        have hc := cls_holds hp hcl hsz hiL hilt (unl hiun) h.1
        rcases hy with ⟨hw, hv⟩ | ⟨hw, rfl⟩
        · simp only [hw, if_true]
          refine .inl ?_
          rcases hv w hc with hv1 | ⟨hv1, hu⟩
          · unfold Oper.wp; rw [hv1]; exact next _ _ hK
          · subst hu; unfold Oper.wp; rw [hv1]; exact next _ _ hK
        · simp only [hw, Bool.false_eq_true, if_false]; exact next _ _ hK⟩

/-- **A REGION THAT DRAWS ITS ORDER, WALKED IN THE TEXT's ORDER.** -/
theorem wp_region_text {id : Nat} {Q' : Exit → Act → World → Prop} {a : Act} {w : World} {l : List Oper} (p : Plan) (C : World → Prop) (hm : P.follows .mixedOrders = true) (hB : p.okB .any l.toArray = true)
    (hC : C w.drew) (h : wpC P l.toArray p C (fun a' w' => Q' .normal a' w') 0 l a w.drew) : (Code.region id l.toArray true).wp P Q' a w := by
  simp only [Plan.okB, Region.lexB, Bool.and_eq_true, Bool.or_eq_true, decide_eq_true_eq, List.all_eq_true, List.mem_range] at hB
  obtain ⟨⟨⟨hs, hlex⟩, hm'⟩, hall⟩ := hB
  have hmL : p.m < l.toArray.size → p.m ∈ p.L := fun h1 => by
    rcases hm' with h2 | h2
    · omega
    · simpa using h2
  have hbef : p.before .any l.toArray := fun i hiL hiD hilt => by
    have h1 := hall i hilt
    simp only [show p.L.contains i = false by simpa using hiL, show p.D.contains i = false by simpa using hiD, Bool.false_eq_true, if_false, Bool.false_or, Bool.or_eq_true, decide_eq_true_eq, Bool.and_eq_true, bne_iff_ne] at h1
    rcases h1 with h1 | h1
    · exact .inl h1
    · exact .inr ⟨h1.1, depB_spec _ _ h1.2⟩
  have hord : ∀ k j, k ∈ p.L → j ∈ p.L → k < j → j < l.toArray.size → Dep .any l.toArray k j := fun k j hk hj hkj hjlt => by
    have h1 := hall j hjlt
    simp only [show p.L.contains j = true by simpa using hj, if_true, List.all_eq_true, Bool.or_eq_true, decide_eq_true_eq] at h1
    rcases h1 k hk with (h2 | h2) | h2
    · omega
    · omega
    · exact depB_spec _ _ h2
  have hcl : Closed Region.Mode.any l.toArray (Array.replicate l.toArray.size false) := fun j o _ hl' => by
    rcases Nat.lt_or_ge j l.toArray.size with h1 | h1 <;> simp_all
  refine wp_region_any hm (wpAny_of_C (Q := fun a' w' => Q' .normal a' w') (p := p) (C := C) (fun _ _ h => h) hbef _ _ _ _ hcl (by simp) ?_)
  have := wpAnyC_lex (C := C) hs hbef hmL hord l 0 (Array.replicate l.toArray.size false) a { w with drawn := w.drawn + 1 } (by simp) (by simp) hcl (by simp)
    (fun j hj => by simp_all) (by simpa using hlex) (fun _ => hC) h
  simpa using this

/-! ### Its steps -/
def noEnter (o : Oper) : Bool := match o.op with
  | .call { callee := .builtin .len, .. } | .call { callee := .builtin .cap, .. } | .call { callee := .builtin .max, .. } | .call { callee := .builtin .min, .. } => true
  | .call _ | .go _ | .defer _ | .send .. | .recv .. | .select .. => false
  | _ => true
theorem v_run {s : Sem Value} {w w' : World} {f : FuncId} {args : Array Value} (h : (do pure (.value (← s)) : Sem Next).run P w = .ok (.enter f args) w') : False := by
  rw [Sem.run_bind] at h
  cases hs : s.run P w with
  | ok v w1 => rw [hs] at h; simp at h
  | halt x w1 => rw [hs] at h; simp at h
theorem u_run {s : Sem Unit} {w w' : World} {f : FuncId} {args : Array Value} (h : (do s; pure .skip : Sem Next).run P w = .ok (.enter f args) w') : False := by
  rw [Sem.run_bind] at h
  cases hs : s.run P w with
  | ok v w1 => rw [hs] at h; simp at h
  | halt x w1 => rw [hs] at h; simp at h
theorem noEnter_run {o : Oper} {ρ : Operand → Value} {w w' : World} {f : FuncId} {args : Array Value} (hn : noEnter o = true) : (execOp ρ o).run P w ≠ .ok (.enter f args) w' := by
  intro h
  obtain ⟨dst, op, type, pos, after, guard⟩ := o
  cases op
  case call c =>
    obtain ⟨callee, args', ts⟩ := c
    cases callee
    case builtin b =>
      cases b <;> simp [noEnter] at hn
      all_goals
        simp only [execOp, resolve, Sem.run_bind, Sem.run_pure, Result.andThen_ok, invoke, builtin] at h
        exact v_run (by rw [Sem.run_bind]; exact h)
    all_goals simp [noEnter] at hn
  all_goals first | (simp [noEnter] at hn; done) | skip
  case nilCheck x =>
    simp only [execOp] at h
    have hb : ∀ {α : Type} (s : Sem α) (g : α → Sem Next) (w : World), (∀ x w1, (g x).run P w1 ≠ .ok (.enter f args) w') → (s >>= g).run P w ≠ .ok (.enter f args) w' := fun s g w hg h => by
      rw [Sem.run_bind] at h
      cases hs : s.run P w with
      | ok v w1 => rw [hs] at h; exact hg v w1 h
      | halt x w1 => rw [hs] at h; simp at h
    have np : ∀ w, (runtimePanic (α := Next) .nilDeref).run P w ≠ .ok (.enter f args) w' := fun w => by
      unfold runtimePanic
      exact hb _ _ _ fun p w1 => by simp [goPanic, Sem.run]
    split at h
    any_goals exact np _ h
    · split at h
      · exact np _ h
      · revert h
        refine hb _ _ _ fun p w1 => hb _ _ _ fun b w2 => ?_
        split
        · exact hb _ _ _ fun _ w3 => by simp
        · simp
      · simp at h
    · simp at h
  case pick c a b =>
    simp only [execOp] at h
    rw [Sem.run_bind] at h
    cases hs : (asBool (ρ c)).run P w with
    | ok v w1 => rw [hs] at h; simp at h
    | halt x w1 => rw [hs] at h; simp at h
  all_goals simp only [execOp] at h
  all_goals first | exact v_run h | exact u_run h | (simp at h; done) | skip

theorem calm_of_quiet {o : Oper} {a : Act} {C : World → Prop} {v : Value} {w : World} (hn : noEnter o = true) (h : o.quietAt P a C w v) : calmAt P o a v w := by
  unfold Oper.quietAt at h
  unfold calmAt
  have hne := fun f args w' => noEnter_run (P := P) (ρ := a.eval) (w := w) (w' := w') (f := f) (args := args) hn
  generalize (execOp a.eval o).run P w = r at *
  cases r with
  | ok n w' =>
    cases n <;> simp only [Oper.quietUpon] at h
    case value u => obtain ⟨rfl, rfl⟩ := h; exact .inl rfl
    case skip => obtain ⟨rfl, rfl⟩ := h; exact .inr ⟨rfl, rfl⟩
    case enter f args => exact absurd rfl (hne f args w')
  | halt x w' => simp only [Oper.quietUpon] at h

/-- So many calm operations. 'd': calm in every world. -/
theorem wpC_seg {p : Plan} {Q : Act → World → Prop} {w : World} (d : Bool) (hC : C w) : ∀ (n k : Nat) (l : List Oper) (a : Act),
    ((List.range n).all fun j => !p.L.contains (k + j) && (p.D.contains (k + j) == d)) = true → (l.take n).all noEnter = true →
    wpQuiet P ops (if d then fun _ => True else C) (fun a' => wpC P ops p C Q (k + n) (l.drop n) a' w) (l.take n) a → wpC P ops p C Q k l a w
  | 0, k, l, a, _, _, h => by simpa [wpQuiet] using h
  | n + 1, k, [], a, _, _, h => by simp [wpQuiet, wpC] at h ⊢; exact h
  | n + 1, k, o :: l, a, hB, hn, h => by
    have h0 := List.all_eq_true.1 hB 0 (by simp)
    simp only [Nat.add_zero, Bool.and_eq_true, Bool.not_eq_true', beq_iff_eq] at h0
    simp only [List.take_succ_cons, List.all_cons, Bool.and_eq_true] at hn
    simp only [List.take_succ_cons, wpQuiet, List.drop_succ_cons] at h
    have hB' : ((List.range n).all fun j => !p.L.contains (k + 1 + j) && (p.D.contains (k + 1 + j) == d)) = true := by
      refine List.all_eq_true.2 fun j hj => ?_
      have := List.all_eq_true.1 hB (j + 1) (by simp at hj ⊢; omega)
      rwa [show k + (j + 1) = k + 1 + j by omega] at this
    have next := fun a' (h' : wpQuiet P ops (if d then fun _ => True else C) (fun a' => wpC P ops p C Q (k + (n + 1)) (l.drop n) a' w) (l.take n) a') =>
      wpC_seg d hC n (k + 1) l a' hB' hn.2 (by rw [show k + 1 + n = k + (n + 1) by omega]; exact h')
    have hcls : p.cls C k = (if d then fun _ => True else C) := by
      unfold Plan.cls; rw [h0.2]
    unfold wpC
    simp only [h0.1, Bool.false_eq_true, if_false]
    by_cases hw : Region.wanted o (yielded ops a.tmps) = true
    · simp only [hw, if_true] at h
      obtain ⟨v, h1, h2⟩ := h
      exact ⟨v, .inl ⟨hw, fun w' hw' => calm_of_quiet hn.1 (h1 w' (by rw [← hcls]; exact hw'))⟩, fun _ => hC, next _ h2⟩
    · simp only [hw] at h
      exact ⟨undef, .inr ⟨by simpa using hw, rfl⟩, fun _ => hC, next _ h⟩
/-- The same behind operation m: calm in every world. -/
theorem wpC_segD {p : Plan} {Q : Act → World → Prop} {w : World} : ∀ (n k : Nat) (l : List Oper) (a : Act),
    ((List.range n).all fun j => !p.L.contains (k + j) && p.D.contains (k + j) && decide (p.m ≤ k)) = true → (l.take n).all noEnter = true →
    wpQuiet P ops (fun _ => True) (fun a' => wpC P ops p C Q (k + n) (l.drop n) a' w) (l.take n) a → wpC P ops p C Q k l a w
  | 0, k, l, a, _, _, h => by simpa [wpQuiet] using h
  | n + 1, k, [], a, _, _, h => by simp [wpQuiet, wpC] at h ⊢; exact h
  | n + 1, k, o :: l, a, hB, hn, h => by
    have h0 := List.all_eq_true.1 hB 0 (by simp)
    simp only [Nat.add_zero, Bool.and_eq_true, Bool.not_eq_true', decide_eq_true_eq] at h0
    simp only [List.take_succ_cons, List.all_cons, Bool.and_eq_true] at hn
    simp only [List.take_succ_cons, wpQuiet, List.drop_succ_cons] at h
    have hB' : ((List.range n).all fun j => !p.L.contains (k + 1 + j) && p.D.contains (k + 1 + j) && decide (p.m ≤ k + 1)) = true := by
      refine List.all_eq_true.2 fun j hj => ?_
      have := List.all_eq_true.1 hB (j + 1) (by simp at hj ⊢; omega)
      rw [show k + (j + 1) = k + 1 + j by omega] at this
      simp only [Bool.and_eq_true, Bool.not_eq_true', decide_eq_true_eq] at this ⊢
      exact ⟨this.1, by omega⟩
    have next := fun a' (h' : wpQuiet P ops (fun _ => True) (fun a' => wpC P ops p C Q (k + (n + 1)) (l.drop n) a' w) (l.take n) a') =>
      wpC_segD n (k + 1) l a' hB' hn.2 (by rw [show k + 1 + n = k + (n + 1) by omega]; exact h')
    have hcls : p.cls C k = (fun _ => True) := by
      unfold Plan.cls; rw [if_pos h0.1.2]
    unfold wpC
    simp only [h0.1.1, Bool.false_eq_true, if_false]
    by_cases hw : Region.wanted o (yielded ops a.tmps) = true
    · simp only [hw, if_true] at h
      obtain ⟨v, h1, h2⟩ := h
      exact ⟨v, .inl ⟨hw, fun w' hw' => calm_of_quiet hn.1 (h1 w' trivial)⟩, fun hk => by omega, next _ h2⟩
    · simp only [hw] at h
      exact ⟨undef, .inr ⟨by simpa using hw, rfl⟩, fun hk => by omega, next _ h⟩
/-- An operation that is followed as it stands. -/
theorem wpC_loud {p : Plan} {Q : Act → World → Prop} {w : World} {k : Nat} {o : Oper} {l : List Oper} {a : Act} (hL : p.L.contains k = true) (hw : Region.wanted o (yielded ops a.tmps) = true)
    (h : ∀ K : Act → World → Prop, (∀ a' w', (k < p.m → C w') → wpC P ops p C Q (k + 1) l a' w' → K a' w') → o.wp P a w K QF) : wpC P ops p C Q k (o :: l) a w := by
  unfold wpC loudOp
  simp only [hL, hw, if_true]
  exact h _ fun a' w' h1 h2 => ⟨h1, h2⟩
/-- .. which its guard passes over. -/
theorem wpC_skip {p : Plan} {Q : Act → World → Prop} {w : World} {k : Nat} {o : Oper} {l : List Oper} {a : Act} (hL : p.L.contains k = true) (hw : Region.wanted o (yielded ops a.tmps) = false)
    (hC : k < p.m → C w) (h : wpC P ops p C Q (k + 1) l (a.put o.dst undef) w) : wpC P ops p C Q k (o :: l) a w := by
  unfold wpC loudOp
  simp only [hL, hw, if_true, Bool.false_eq_true, if_false]
  exact ⟨hC, h⟩
/-- .. whose run is known. -/
theorem wpC_value {p : Plan} {Q : Act → World → Prop} {w w' : World} {k : Nat} {o : Oper} {l : List Oper} {a : Act} {v : Value} (hL : p.L.contains k = true) (hw : Region.wanted o (yielded ops a.tmps) = true)
    (hr : (execOp a.eval o).run P w = .ok (.value v) w') (hC : k < p.m → C w') (h : wpC P ops p C Q (k + 1) l (a.put o.dst v) w') : wpC P ops p C Q k (o :: l) a w :=
  wpC_loud hL hw fun K hK => by unfold Oper.wp; rw [hr]; exact hK _ _ hC h
theorem wpC_store {p : Plan} {Q : Act → World → Prop} {w w' : World} {k : Nat} {o : Oper} {l : List Oper} {a : Act} (hL : p.L.contains k = true) (hw : Region.wanted o (yielded ops a.tmps) = true)
    (hr : (execOp a.eval o).run P w = .ok .skip w') (hC : k < p.m → C w') (h : wpC P ops p C Q (k + 1) l (a.put o.dst undef) w') : wpC P ops p C Q k (o :: l) a w :=
  wpC_loud hL hw fun K hK => by unfold Oper.wp; rw [hr]; exact hK _ _ hC h
theorem wpC_nil {p : Plan} {Q : Act → World → Prop} {w : World} {k : Nat} {a : Act} (h : Q a w) : wpC P ops p C Q k [] a w := h
/-- A class of worlds by an index of which nothing is known but the class's facts. -/
theorem classOf (F : World → Prop) {w : World} (hw : F w) : ∃ (X : Type) (f : X → World) (_ : Nonempty X), (∀ x, F (f x)) ∧ ∀ w, F w → ∃ x, w = f x :=
  ⟨{w : World // F w}, fun x => x.1, ⟨w, hw⟩, fun x => x.2, fun w h => ⟨⟨w, h⟩, rfl⟩⟩
end
end Go.Proofs.YtlecnlnpgghmbaaGreatDoor

/- Words that more than one layer needs: the block of a slice, slices that lie as they were, bytes appended. -/
namespace Go.Proofs.YtlecnlnpgghmbaaGreatDoor
set_option linter.unusedVariables false
set_option linter.unusedSimpArgs false
open Go.RowKit
def vblock : Value → Option Nat
  | .slice (some a) _ _ => some a.block
  | _ => none
theorem SliceIs.chg {w : World} {B : Nat} {e : TypeId} {v : Value} {n : Nat} {xs : List Value} (h : SliceIs w B e v n xs) {S : Nat → Prop} {w' : World} (hc : Chg S w w') (hn : ∀ k, vblock v = some k → ¬ S k) : SliceIs w' B e v n xs := by
  refine ⟨h.1, h.2.imp id ?_⟩
  rintro ⟨g, cap, cur, rfl, h2, h3, h4⟩
  exact ⟨g, cap, cur, rfl, h2, h3.keep hc (hn g rfl), h4⟩
theorem SliceIs.block_lt {w : World} {B : Nat} {e : TypeId} {v : Value} {n : Nat} {xs : List Value} (h : SliceIs w B e v n xs) {k : Nat} (hk : vblock v = some k) : B ≤ k ∧ k < w.heap.size := by
  rcases h.2 with ⟨rfl, rfl⟩ | ⟨g, cap, cur, rfl, h2, h3, h4⟩
  · cases hk
  · cases hk; exact ⟨h2, h3.lt⟩
theorem setCell_head {w : World} {r : Nat} {cs : Array Value} {E : TypeId} (h : w.heap[r]? = some (.cells cs E (0, 0))) (i : Nat) (v : Value) : (w.setCell ⟨r, i, none⟩ v).heap[r]? = some (.cells (cs.setIfInBounds i v) E (0, 0)) := by
  rw [setCell_eq_setRow w r i _ _ _ _ h]; exact heap_setRow h _
theorem SliceIs.mono {w : World} {B B' : Nat} {e : TypeId} {v : Value} {n : Nat} {xs : List Value} (h : SliceIs w B e v n xs) (hB : B' ≤ B) : SliceIs w B' e v n xs := by
  refine ⟨h.1, h.2.imp id ?_⟩
  rintro ⟨g, cap, cur, rfl, h2, h3⟩
  exact ⟨g, cap, cur, rfl, Nat.le_trans hB h2, h3⟩
theorem info_u8 : (Tryz.prog.info? 5).map (fun i => (i.zero, i.size, i.bytes)) = some (some (.int .u8 0), 1, 1) := by kernel_rfl
theorem append8 {w : World} {B n : Nat} {v : Value} {xs : List UInt8} (h : SliceIs w B 5 v n (xs.map u8v)) (hB : B ≤ w.heap.size) (x : UInt8) (hn : n + 1 ≤ 1000000000) :
    ∃ v' w', (Builtin.append_ #[90, 90] 90 #[v, .slice (some ⟨w.heap.size, 0, none⟩) 1 1]).run Tryz.prog (w.alloc (.cells #[u8v x] 5)) = .ok v' w' ∧ SliceIs w' B 5 v' (n + 1) ((xs ++ [x]).map u8v) ∧ Below B w w' := by
  obtain ⟨i0, g1, g2, g3, g4⟩ := info_parts info_u8
  have := run_append_one (P := Tryz.prog) (t := 90) (ty := 90) Tryz.underlying90 g1 g2 g3 g4 rfl h hB (u8v x) rfl (by unfold maxLen; omega) (by omega)
  rw [List.map_append]
  exact this
theorem u8v_of (n : Nat) : u8v (UInt8.ofNat n) = .int .u8 ((n : Int) % 256) := by
  simp [u8v]
/-- Append to a slice of an object's own: its row may have been written, or a new one has been made. -/
theorem run_append_own {P : Program} {w : World} {e : TypeId} {v : Value} {n : Nat} {xs : List Value} {t ty : TypeId} {i : TypeInfo} {z : Value} {bytes : Nat} (ht : P.underlying t = some (.slice e)) (hi : P.info? e = some i) (hz : i.zero = some z)
    (hsize : i.size = 1) (hby : i.bytes = bytes) (hzs : z.cells.size = 1) (h : SliceIs w 0 e v n xs)
    (a : Addr) (m c : Nat) (news : List Value) (hm : 0 < m) (hl : news.length = m) (hnews : ∀ j u, news[j]? = some u → w.cell? (a.add j) = some u) (h1 : ∀ u ∈ news, u.oneCell' = true)
    (h63 : n + m ≤ maxLen) (hbytes : (n + m) * bytes ≤ 140737488355328) :
    ∃ v' w', (Builtin.append_ #[t, t] ty #[v, .slice (some a) m c]).run P w = .ok v' w' ∧ SliceIs w' 0 e v' (n + m) (xs ++ news) ∧ Chg (fun k => vblock v = some k) w w' ∧ (vblock v' = vblock v ∨ ∃ k, vblock v' = some k ∧ w.heap.size ≤ k) := by
  have fin : ∀ (g : Option Nat) (olds : List Value) v' w', g = vblock v → olds = xs → Appended w e 1 g olds news (n + m) v' w' → SliceIs w' 0 e v' (n + m) (xs ++ news) ∧ Chg (fun k => vblock v = some k) w w' ∧ (vblock v' = vblock v ∨ ∃ k, vblock v' = some k ∧ w.heap.size ≤ k) := by
    rintro g olds v' w' rfl rfl ⟨g', cap', cur', rfl, q1, q2, q3, q4, q5, q6, q7⟩
    refine ⟨⟨by rw [List.length_append, h.1, hl], .inr ⟨g', cap', cur', rfl, Nat.zero_le _, q1, by omega, q3, q4, by rw [← q5, Nat.mul_one]⟩⟩, q7.mono fun k hk _ => hk.symm, q6.imp id fun h => ⟨g', rfl, h⟩⟩
  rcases h.2 with ⟨rfl, rfl⟩ | ⟨g, cap, cur, rfl, h2, h3, h4, h5, h6, h7⟩
  · obtain ⟨v', w', hr, hp⟩ := run_append_row_nil (P := P) w t ty e i z 1 bytes ht hi hz hsize hby hzs a m c news hm (by omega) hnews (by omega) (by simpa using hbytes)
    have hx : [] = xs := (List.eq_nil_of_length_eq_zero h.1).symm
    refine ⟨v', w', hr, fin none [] v' w' rfl hx ?_⟩
    rw [Nat.zero_add]; exact hp
  · obtain ⟨v', w', hr, hp⟩ := run_append_row (P := P) w t ty e i z 1 bytes ht hi hz hsize hby hzs g n cap cur h3 (by omega) h5 h6 a m c news (by omega) hnews h1 h63 hbytes
    exact ⟨v', w', hr, fin (some g) _ v' w' rfl (by rw [Nat.mul_one]; exact h7) hp⟩
theorem run_append_own1 {P : Program} {w : World} {e : TypeId} {v : Value} {n : Nat} {xs : List Value} {t ty : TypeId} {i : TypeInfo} {z : Value} {bytes : Nat} (ht : P.underlying t = some (.slice e)) (hi : P.info? e = some i) (hz : i.zero = some z)
    (hsize : i.size = 1) (hby : i.bytes = bytes) (hzs : z.cells.size = 1) (h : SliceIs w 0 e v n xs) (u : Value) (hu : u.oneCell' = true) (h63 : n + 1 ≤ maxLen) (hbytes : (n + 1) * bytes ≤ 140737488355328) :
    ∃ v' w', (Builtin.append_ #[t, t] ty #[v, .slice (some ⟨w.heap.size, 0, none⟩) 1 1]).run P (w.alloc (.cells #[u] e)) = .ok v' w' ∧ SliceIs w' 0 e v' (n + 1) (xs ++ [u]) ∧ Chg (fun k => vblock v = some k) w w' ∧ (vblock v' = vblock v ∨ ∃ k, vblock v' = some k ∧ w.heap.size ≤ k) := by
  have hb : Below w.heap.size w (w.alloc (.cells #[u] e)) := (Below.refl _ _).alloc (Nat.le_refl _) _
  obtain ⟨v', w', hr, h2, h3, h4⟩ := run_append_own (P := P) (ty := ty) ht hi hz hsize hby hzs (h.below hb) ⟨w.heap.size, 0, none⟩ 1 1 [u] (by omega) rfl (fun j x hx => by
    have hj : j = 0 := by have := (List.getElem?_eq_some_iff.1 hx).1; simpa using this
    subst hj
    rw [Addr.add_lit]
    refine cell_in (heap_new w _) ?_
    simpa using hx) (by simpa using hu) h63 hbytes
  exact ⟨v', w', hr, h2, (Chg.alloc (fun k => vblock v = some k) w _).trans h3 fun k hk _ => hk, h4.imp id fun ⟨k, e, hk⟩ => ⟨k, e, by simp at hk; omega⟩⟩
/-- The blocks behind a step: the old ones or new ones. -/
def Fresh (w : World) (F F' : Nat → Prop) : Prop := ∀ k, F' k → F k ∨ w.heap.size ≤ k
end Go.Proofs.YtlecnlnpgghmbaaGreatDoor

/- what the library's variables hold, at a seat whose rows lay them. -/
namespace Go.Proofs.YtlecnlnpgghmbaaGreatDoor
set_option linter.unusedVariables false
set_option linter.unusedSimpArgs false
open Go.RowKit Go.Sort Go.Lib
theorem var_below {P : Program} {w w' : World} {name : String} {r : Array Value} (h : w.var? P name = some r) (hb : Below w.heap.size w w') : w'.var? P name = some r := by
  unfold World.var? at *
  cases hg : P.globalNamed name with
  | none => simp [hg] at h
  | some g =>
    simp only [hg, Option.bind_some] at h ⊢
    have hlt : g < w.heap.size := by
      rcases Nat.lt_or_ge g w.heap.size with h' | h'
      · exact h'
      · rw [Array.getElem?_eq_none h'] at h; simp at h
    rw [hb.block g hlt]
    exact h
/-- What the library's variables hold. -/
structure Laid (w : World) : Prop where
  tab : Lib.TabIs Tryz.prog w "internal/strconv.uint64pow10" .u64 Lib.pow10Tab
  syn : ∃ tp p, w.var? Tryz.prog "strconv.ErrSyntax" = some #[.iface tp p]
  rng : ∃ tp p, w.var? Tryz.prog "strconv.ErrRange" = some #[.iface tp p]
theorem Laid.below {w w' : World} (h : Laid w) (hb : Below w.heap.size w w') : Laid w' := by
  refine { tab := Lib.tabBelow_of_tabIs h.tab w' hb, syn := ?_, rng := ?_
         }
  · obtain ⟨t2, p2, h2⟩ := h.syn; exact ⟨t2, p2, var_below h2 hb⟩
  · obtain ⟨t2, p2, h2⟩ := h.rng; exact ⟨t2, p2, var_below h2 hb⟩
end Go.Proofs.YtlecnlnpgghmbaaGreatDoor

/- num.Int, num.IntText. -/
namespace Go.Proofs.YtlecnlnpgghmbaaGreatDoor
set_option linter.unusedVariables false
set_option linter.unusedSimpArgs false
open Go.RowKit
theorem fmtI (n : Int) (hn : -9223372036854775808 ≤ n ∧ n ≤ 9223372036854775807) {w : World} (hl : Laid w) :
    Calls Tryz.prog 123 #[.int .i64 n, .int .i64 10] w fun e w' => e = .returned (.string (intT n)) ∧ Below w.heap.size w w' :=
  (Tryz.strconv_FormatInt_10 n hn.1 hn.2 w hl.tab).mono fun e w' ⟨h1, k, os, h2⟩ => ⟨h1, by rw [h2]; exact Lib.below_grow _ w (Nat.le_refl _) k os⟩
set_option maxHeartbeats 800000 in
set_option maxRecDepth 100000 in
theorem intText_any (n : Int) (hn : -9223372036854775808 ≤ n ∧ n ≤ 9223372036854775807) {w : World} (hl : Laid w) :
    Calls Tryz.prog 121 #[.int .i64 n] w fun e w' => e = .returned (.string (intT n)) ∧ Below w.heap.size w w' := by
  have H := Lib.hid (fmtI n hn hl)
  clear hl
  go_enter Tryz.func121, Tryz.ntmps121
  go_wp2_with fail
  refine H.out.mono ?_
  rintro e w' ⟨rfl, hb⟩
  have HB := Lib.hid hb
  clear hb
  go_wp2_with fail
  go_ret
  exact ⟨rfl, HB.out⟩
def intV (s : ByteArray) : Value := match intS s with
  | some n => .tuple #[.int .i64 n, .bool true]
  | none => .tuple #[.int .i64 0, .bool false]
set_option maxHeartbeats 1600000 in
set_option maxRecDepth 100000 in
theorem int_any (s : ByteArray) (hs : s.size ≤ 281474976710656) {w : World} (hl : Laid w) :
    Calls Tryz.prog 113 #[.string s] w fun e w' => e = .returned (intV s) ∧ Below w.heap.size w w' := by
  cases hp : Lib.parseIntB 64 s.data.toList with
  | ok u =>
    have hu := parseI_range hp
    have HP := Lib.hid (Tryz.strconv_ParseInt_10_at64_ok s (by omega) u hp w)
    have HF := Lib.hid (fun w' (hb : Below w.heap.size w w') => fmtI u hu (hl.below hb))
    by_cases hi : intT u = s
    · have he : intV s = .tuple #[.int .i64 u, .bool true] := by
        have h2 : strOf (Lib.itoa u) = s := hi
        unfold intV intS; rw [hp]; simp [h2]
      rw [he]
      obtain ⟨t, ht⟩ : ∃ t, intT u = t := ⟨_, rfl⟩
      rw [ht] at HF hi
      have hb := str_eq hi
      have HI := Lib.hid hi
      clear hl he hp ht hi
      go_enter Tryz.func113, Tryz.ntmps113
      go_wp2_with fail
      refine HP.out.mono ?_
      rintro e w1 ⟨rfl, hw1⟩
      have HB1 := Lib.hid (show Below w.heap.size w w1 by
        rcases hw1 with rfl | ⟨_, rfl⟩
        · exact Below.refl _ _
        · exact Lib.bytesWorld_below _ _ _)
      clear hw1
      go_wp2_with fail
      refine (HF.out _ HB1.out).mono ?_
      rintro e w2 ⟨rfl, hb2⟩
      have HB2 := Lib.hid (HB1.out.trans (hb2.mono HB1.out.size))
      clear hb2
      go_wp2_with fail
      go_ret2
      exact ⟨rfl, HB2.out⟩
    · have he : intV s = .tuple #[.int .i64 0, .bool false] := by
        have h2 : ¬ strOf (Lib.itoa u) = s := hi
        unfold intV intS; rw [hp]; simp [h2]
      rw [he]
      obtain ⟨t, ht⟩ : ∃ t, intT u = t := ⟨_, rfl⟩
      rw [ht] at HF hi
      have hb := str_ne hi
      clear hl he hp ht hi
      go_enter Tryz.func113, Tryz.ntmps113
      go_wp2_with fail
      refine HP.out.mono ?_
      rintro e w1 ⟨rfl, hw1⟩
      have HB1 := Lib.hid (show Below w.heap.size w w1 by
        rcases hw1 with rfl | ⟨_, rfl⟩
        · exact Below.refl _ _
        · exact Lib.bytesWorld_below _ _ _)
      clear hw1
      go_wp2_with fail
      refine (HF.out _ HB1.out).mono ?_
      rintro e w2 ⟨rfl, hb2⟩
      have HB2 := Lib.hid (HB1.out.trans (hb2.mono HB1.out.size))
      clear hb2
      go_wp2_with fail
      go_ret2
      exact ⟨rfl, HB2.out⟩
  | range =>
    have he : intV s = .tuple #[.int .i64 0, .bool false] := by unfold intV intS; rw [hp]
    rw [he]
    obtain ⟨tp, p, hv⟩ := hl.rng
    have HP := Lib.hid (Tryz.strconv_ParseInt_10_at64_range_var s hs hp tp p w hv)
    clear hl he hp hv
    go_enter Tryz.func113, Tryz.ntmps113
    go_wp2_with fail
    refine HP.out.mono ?_
    rintro e w1 ⟨N, rfl, _, _, hb⟩
    have HB1 := Lib.hid hb
    clear hb
    go_wp2_with fail
    go_ret2
    exact ⟨rfl, HB1.out⟩
  | _ =>
    have he : intV s = .tuple #[.int .i64 0, .bool false] := by unfold intV intS; rw [hp]
    rw [he]
    obtain ⟨tp, p, hv⟩ := hl.syn
    have HP := Lib.hid (Tryz.strconv_ParseInt_10_at64_syntax_var s hs hp tp p w hv)
    clear hl he hp hv
    go_enter Tryz.func113, Tryz.ntmps113
    go_wp2_with fail
    refine HP.out.mono ?_
    rintro e w1 ⟨N, rfl, _, _, hb⟩
    have HB1 := Lib.hid hb
    clear hb
    go_wp2_with fail
    go_ret2
    exact ⟨rfl, HB1.out⟩
end Go.Proofs.YtlecnlnpgghmbaaGreatDoor

/- octets.Append; pack.back. -/
namespace Go.Proofs.YtlecnlnpgghmbaaGreatDoor
set_option linter.unusedVariables false
set_option linter.unusedSimpArgs false
open Go.RowKit
theorem i64_and_nat (a b : Nat) (ha : a < 9223372036854775808) (hb : b < 9223372036854775808) : bits .and .i64 (a : Int) (b : Int) = ((a &&& b : Nat) : Int) := by
  have hx : a &&& b < 2 ^ 63 := Nat.and_lt_two_pow _ (by omega)
  show IntKind.i64.wrap ((BitVec.ofInt 64 (a : Int) &&& BitVec.ofInt 64 (b : Int)).toNat : Int) = _
  rw [BitVec.toNat_and, ofInt_u64 a (by omega), ofInt_u64 b (by omega), IntWalk.i64_in _ ⟨by omega, by omega⟩]
theorem i64_or_nat (a b : Nat) (ha : a < 9223372036854775808) (hb : b < 9223372036854775808) : bits .or .i64 (a : Int) (b : Int) = ((a ||| b : Nat) : Int) := by
  have hx : a ||| b < 2 ^ 63 := Nat.or_lt_two_pow (by omega) (by omega)
  show IntKind.i64.wrap ((BitVec.ofInt 64 (a : Int) ||| BitVec.ofInt 64 (b : Int)).toNat : Int) = _
  rw [BitVec.toNat_or, ofInt_u64 a (by omega), ofInt_u64 b (by omega), IntWalk.i64_in _ ⟨by omega, by omega⟩]
set_option maxHeartbeats 800000 in
set_option maxRecDepth 100000 in
theorem octAppend {w : World} {B : Nat} {v : Value} {xs : List UInt8} (h : SliceIs w B 5 v xs.length (xs.map u8v)) (hB : B ≤ w.heap.size) (n k : Nat) (hn : n < 18446744073709551616) (hk : k ≤ 8) (hx : xs.length ≤ 900000000) :
    Calls Tryz.prog 114 #[v, .int .u64 n, .int .i64 k] w fun e w' => ∃ v', e = .returned v' ∧ SliceIs w' B 5 v' (xs ++ leN k n).length ((xs ++ leN k n).map u8v) ∧ Below B w w' := by
  have HI := Lib.hid h
  clear h
  go_enter Tryz.func114, Tryz.ntmps114
  go_wp2_with fail
  go_loopw [0, 1, 8] (fun l m i wr => ∃ j : Nat, j ≤ k ∧ i = .int .i64 j ∧ m = .int .u64 ((n / 256 ^ j : Nat) : Int) ∧ Hid (SliceIs wr B 5 l (xs ++ leN j n).length ((xs ++ leN j n).map u8v) ∧ Below B w wr)) (fun _ _ i _ => k - (intOf i).toNat)
  case atStart => exact ⟨0, Nat.zero_le _, rfl, by simp, Lib.hid ⟨by simpa [leN] using HI.out, Below.refl _ _⟩⟩
  case round =>
    obtain ⟨j, hj, rfl, rfl, hI⟩ := hrel
    by_cases hlt : j < k
    · obtain ⟨v2, w2, r2, s2, b2⟩ := append8 hI.out.1 (Nat.le_trans hB hI.out.2.size) (UInt8.ofNat (n / 256 ^ j)) (by simp; omega)
      rw [show (xs ++ leN j n).length + 1 = (xs ++ leN (j + 1) n).length by simp; omega, List.append_assoc, ← leN_snoc] at s2
      have HNw := Lib.hid (And.intro s2 (hI.out.2.trans b2))
      rw [u8v_of] at r2
      have HR2 := Lib.hid r2
      have hdiv : n / 256 ^ (j + 1) = n / 256 ^ j / 256 := by rw [Nat.pow_succ, Nat.div_div_eq_div_mul]
      have hle : n / 256 ^ j < 18446744073709551616 := Nat.lt_of_le_of_lt (Nat.div_le_self _ _) hn
      have HD := Lib.hid hdiv
      clear s2 b2 r2 hdiv hI
      generalize n / 256 ^ j = q at *
      go_wp2_with (at_builtin; refine wpList_append_run rfl rfl HR2.out ?_)
      go_roundw
      case rel => exact ⟨j + 1, by omega, by go_num, by rw [HD.out]; go_num, HNw⟩
      case measure => simp [intOf]; omega
    · have : j = k := by omega
      subst this
      go_wp2_with fail
      go_ret
      exact ⟨_, rfl, hI.out⟩
theorem or128 (c : Nat) (h : c < 128) : bits .or .u8 (c : Int) 128 = ((128 + c : Nat) : Int) := by
  have := u8_or_nat c 128 (by omega) (by omega)
  rw [show ((128 : Nat) : Int) = 128 from rfl] at this
  rw [this]
  have h2 := Nat.shiftLeft_add_eq_or_of_lt (i := 7) (b := c) (by omega) 1
  rw [Nat.shiftLeft_eq, Nat.one_mul] at h2
  rw [Nat.or_comm, ← h2]
theorem grp_lt (n j : Nat) : n / 128 ^ j % 128 < 128 := Nat.mod_lt _ (by omega)
set_option maxHeartbeats 1600000 in
set_option maxRecDepth 100000 in
theorem back_any (n : Nat) (hn : n < 34359738368) (w : World) :
    Calls Tryz.prog 115 #[.int .i64 n] w fun e w' => ∃ v', e = .returned v' ∧ SliceIs w' w.heap.size 5 v' (backL n).length ((backL n).map u8v) ∧ Below w.heap.size w w' := by
  have hand : bits .and .i64 (n : Int) 127 = ((n % 128 : Nat) : Int) := by rw [i64_and127]; omega
  have h256 : ((n % 128 : Nat) : Int) % 256 = ((n % 128 : Nat) : Int) := by omega
  have hfirst : SliceIs (w.alloc (.cells #[u8v (UInt8.ofNat (n % 128))] 5)) w.heap.size 5 (.slice (some ⟨w.heap.size, 0, none⟩) 1 1) 1 ([UInt8.ofNat (n % 128)].map u8v) :=
    ⟨rfl, .inr ⟨w.heap.size, 1, _, rfl, Nat.le_refl _, .of (heap_new _ _), rfl, Nat.le_refl _, by unfold maxLen; omega, rfl⟩⟩
  rw [show u8v (UInt8.ofNat (n % 128)) = .int .u8 ((n % 128 : Nat) : Int) by rw [u8v_of]; congr 1] at hfirst
  have HF := Lib.hid hfirst
  have HN := Lib.hid hn
  clear hfirst hn
  go_enter Tryz.func115, Tryz.ntmps115
  go_wp2_with fail
  go_loopw [0, 3] (fun i l wr => ∃ j : Nat, j < 5 ∧ i = .int .i64 ((n / 128 ^ (j + 1) : Nat) : Int) ∧ (j = 0 ∨ 128 ^ j ≤ n) ∧ Hid (SliceIs wr w.heap.size 5 l (j + 1) ((UInt8.ofNat (n / 128 ^ j % 128) :: flB j n).map u8v) ∧ Below w.heap.size w wr)) (fun i _ _ => (intOf i).toNat)
  case atStart =>
    refine ⟨0, by omega, by simp, .inl rfl, Lib.hid ⟨?_, (Below.refl _ _).alloc (Nat.le_refl _) _⟩⟩
    simpa [flB] using HF.out
  case round =>
    obtain ⟨j, hj, rfl, hge, hI⟩ := hrel
    obtain ⟨hI1, hI2⟩ := hI.out
    obtain ⟨g, cap, cur, rfl, hg, hrow, hcs, hnc, hcm, htk⟩ := hI1.2.resolve_left (by simp)
    have HN' := HN.out
    by_cases h0 : n / 128 ^ (j + 1) = 0
    · have hlt : n < 128 ^ (j + 1) := by
        have hp : 0 < 128 ^ (j + 1) := Nat.pow_pos (by omega)
        exact (Nat.div_eq_zero_iff_lt hp).1 h0
      have hb : UInt8.ofNat (n / 128 ^ j % 128) :: flB j n = backL n := by
        rw [backL_eq hlt hge hj, Nat.mod_eq_of_lt]
        rw [Nat.pow_succ] at hlt
        exact Nat.div_lt_of_lt_mul hlt
      have hle : (backL n).length = j + 1 := by rw [← hb]; simp
      rw [h0]
      have HE := Lib.hid (And.intro hI1 hI2)
      rw [hb, ← hle] at HE
      clear hrow htk hI1 hI2 hI hb
      go_wp2_with fail
      go_ret
      refine ⟨_, rfl, ?_⟩
      have := HE.out
      rw [hle] at this ⊢
      exact this
    · have hp : 0 < 128 ^ (j + 1) := Nat.pow_pos (by omega)
      have hle : 128 ^ (j + 1) ≤ n := by
        rcases Nat.lt_or_ge n (128 ^ (j + 1)) with h | h
        · exact absurd (Nat.div_eq_of_lt h) h0
        · exact h
      have hj5 : j + 1 < 5 := by
        rcases Nat.lt_or_ge (j + 1) 5 with h | h
        · exact h
        · have := Nat.pow_le_pow_right (n := 128) (by omega) h
          omega
      obtain ⟨q, hq⟩ : ∃ q, n / 128 ^ (j + 1) = q := ⟨_, rfl⟩
      obtain ⟨x, hx⟩ : ∃ x, n / 128 ^ j % 128 = x := ⟨_, rfl⟩
      obtain ⟨r, hr⟩ : ∃ r, q % 128 = r := ⟨_, rfl⟩
      obtain ⟨y, hy⟩ : ∃ y, 128 + x = y := ⟨_, rfl⟩
      have hx1 : x < 128 := by rw [← hx]; exact grp_lt n j
      have hr1 : r < 128 := by rw [← hr]; exact Nat.mod_lt _ (by omega)
      rw [hx] at htk
      have htk' : cur.toList.take (j + 1) = u8v (UInt8.ofNat x) :: (flB j n).map u8v := by rw [htk]; rfl
      have hc0 : cur[0]? = some (.int .u8 (x : Int)) := by
        have e := congrArg (fun l => l[0]?) htk'
        simp only [List.getElem?_take_of_lt (show 0 < j + 1 by omega), Array.getElem?_toList, List.getElem?_cons_zero] at e
        rw [e, u8v_of]; congr 2; omega
      have cell0 := hrow.cell hc0
      have fr0 := hrow.free (i := 0) (by omega)
      have hor := or128 x hx1
      rw [hy] at hor
      have hcur' : (cur.setIfInBounds 0 (.int .u8 (y : Int))).toList.take (j + 1) = (flB (j + 1) n).map u8v := by
        rw [Array.toList_setIfInBounds, List.take_set, htk', flB, List.map_cons, hx, hy, u8v_of y, List.set_cons_zero]
        congr 2; omega
      obtain ⟨w1, hw1⟩ : ∃ w1, w1 = wr.setCell ⟨g, 0, none⟩ (.int .u8 (y : Int)) := ⟨_, rfl⟩
      have hrow1 : RowAt w1 g 5 (cur.setIfInBounds 0 (.int .u8 (y : Int))) := by rw [hw1, hrow.setCell]; exact hrow.setRow (by simp)
      have hb1 : Below w.heap.size w w1 := by rw [hw1]; exact hI2.setCell hg _
      have hs1 : SliceIs w1 w.heap.size 5 (.slice (some ⟨g, 0, none⟩) (j + 1) cap) (j + 1) ((flB (j + 1) n).map u8v) :=
        ⟨by simp, .inr ⟨g, cap, _, rfl, hg, hrow1, by simpa using hcs, hnc, hcm, hcur'⟩⟩
      obtain ⟨w2, hw2⟩ : ∃ w2, w2 = w1.alloc (.cells #[.int .u8 (r : Int)] 5) := ⟨_, rfl⟩
      have hb2 : Below w1.heap.size w1 w2 := by rw [hw2]; exact (Below.refl _ _).alloc (Nat.le_refl _) _
      have hru : u8v (UInt8.ofNat r) = .int .u8 (r : Int) := by rw [u8v_of]; congr 1; omega
      have hfr : SliceIs w2 w1.heap.size 5 (.slice (some ⟨w1.heap.size, 0, none⟩) 1 1) 1 ([UInt8.ofNat r].map u8v) :=
        ⟨rfl, .inr ⟨w1.heap.size, 1, _, rfl, Nat.le_refl _, .of (by rw [hw2]; exact heap_new _ _), rfl, Nat.le_refl _, by unfold maxLen; omega, by simp [hru]⟩⟩
      have hs2 := hs1.below hb2
      obtain ⟨i0, g1, g2, g3, g4⟩ := info_parts info_u8
      obtain ⟨a', c', he', harg⟩ := hs2.arg
      cases he'
      obtain ⟨v', w3, hr3, hs3, hb3⟩ := run_append_local (P := Tryz.prog) (t := 90) (ty := 90) Tryz.underlying90 g1 g2 g3 g4 rfl hfr hb2.size ⟨g, 0, none⟩ (j + 1) cap ((flB (j + 1) n).map u8v) (by omega) (by simp) (fun i u hu => by
        obtain ⟨hlt, hu'⟩ := List.getElem?_eq_some_iff.1 hu
        obtain ⟨b, o, hbo, hcell⟩ := harg.2.resolve_left (by omega)
        cases hbo
        have hlt' : i < j + 1 := by simpa using hlt
        have := hcell i hlt'
        rw [Addr.add_lit, this]
        congr 1
        simp only [List.getD, hu, Option.getD_some]) (by simp; intro x _; rfl) (by unfold maxLen; omega) (by omega)
      have hstep : UInt8.ofNat (n / 128 ^ (j + 1) % 128) :: flB (j + 1) n = [UInt8.ofNat r] ++ flB (j + 1) n := by rw [hq, hr]; rfl
      rw [← List.map_append, ← hstep, show 1 + (j + 1) = j + 1 + 1 by omega] at hs3
      have hB3 : Below w.heap.size w w3 := hb1.trans ((hb2.trans hb3).mono hb1.size)
      have hand2 : bits .and .i64 (q : Int) 127 = (r : Int) := by rw [i64_and127]; omega
      have h256b : (r : Int) % 256 = r := by omega
      have hqb : q < 34359738368 := by rw [← hq]; exact Nat.lt_of_le_of_lt (Nat.div_le_self _ _) HN.out
      have hdiv : n / 128 ^ (j + 1 + 1) = q / 128 := by rw [Nat.pow_succ, ← Nat.div_div_eq_div_mul, hq]
      have hq0 : 0 < q := by omega
      have HR3 := Lib.hid hr3
      have HS3 := Lib.hid (And.intro (hs3.mono hb1.size) hB3)
      have HW1 := Lib.hid hw1
      have HW2 := Lib.hid hw2
      have HD := Lib.hid (And.intro hdiv (And.intro hle (And.intro hq hstep)))
      rw [hq]
      clear hr3 hs3 hB3 hw1 hw2 hdiv hle hq hstep hI hI1 hI2 hrow hcs hcm htk htk' hc0 hcur' hrow1 hb1 hs1 hb2 hru hfr hs2 harg g1 g2 g3 g4 hand h256 hp h0 HF HN'
      go_upto_region 6 with (fail)
      rw [← HW1.out]
      clear cell0 fr0 hor
      go_wp2_with (at_builtin; rw [← HW2.out]; refine wpList_append_run rfl rfl HR3.out ?_)
      go_roundw
      case rel => exact ⟨j + 1, hj5, by rw [HD.out.1]; go_num, .inr HD.out.2.1, HS3⟩
      case measure => simp [intOf]; omega
end Go.Proofs.YtlecnlnpgghmbaaGreatDoor

/- Appending a string's bytes, or another slice, to bytes that a call has made. -/
namespace Go.Proofs.YtlecnlnpgghmbaaGreatDoor
set_option linter.unusedVariables false
set_option linter.unusedSimpArgs false
open Go.RowKit
section
variable {P : Program} {w : World} {e : TypeId}
theorem run_append_row_str {t u ty : TypeId} {i : TypeInfo} {z : Value} (ht : P.underlying t = some (.slice e)) (hu : P.underlying u = some .string) (hi : P.info? e = some i) (hz : i.zero = some z)
    (hsize : i.size = 1) (hby : i.bytes = 1) (hzs : z.cells.size = 1)
    (g n cap : Nat) (cur : Array Value) (hg : RowAt w g e cur) (hcs : cur.size = cap) (hnc : n ≤ cap) (hcm : cap ≤ maxLen) (s : ByteArray)
    (h63 : n + s.size ≤ maxLen) (hbytes : n + s.size ≤ 140737488355328) :
    ∃ v w', (Builtin.append_ #[t, u] ty #[.slice (some ⟨g, 0, none⟩) n cap, .string s]).run P w = .ok v w' ∧ Appended w e 1 (some g) (cur.toList.take n) (Lib.strCells s) (n + s.size) v w' := by
  have hol : (cur.toList.take n).length = n := by rw [List.length_take, Array.length_toList, hcs, Nat.min_eq_left hnc]
  have hsl := Lib.strCells_length s
  by_cases hroom : n + s.size ≤ cap
  · have hf := Lib.run_firstCells_string (P := P) w 1 s
    have hst := run_storeCells_row (P := P) g n e (Lib.strCells s) 0 cur w hg (by omega) (Lib.strCells_oneCell s)
    simp only [Nat.add_zero, hsl] at hst
    have hr : (Builtin.append_ #[t, u] ty #[.slice (some ⟨g, 0, none⟩) n cap, .string s]).run P w = .ok (.slice (some ⟨g, 0, none⟩) (n + s.size) cap) (w.setRow g (cur.toList.take n ++ Lib.strCells s ++ cur.toList.drop (n + s.size)).toArray) := by
      simp [Builtin.append_, run_underlying ht, run_underlying hu, sizeOf, typeInfo, hi, hsize, Builtin.lenOf, hroom, hf, Addr.add_lit, hst]
    refine ⟨_, _, hr, g, cap, _, rfl, hg.setRow (by simp; omega), ?_, hroom, hcm, ?_, .inl rfl, Chg.setRow _ _ _ _ rfl⟩
    · simp only [List.size_toArray, List.length_append, List.length_take, List.length_drop, Array.length_toList]; omega
    · show (cur.toList.take n ++ Lib.strCells s ++ cur.toList.drop (n + s.size)).take ((n + s.size) * 1) = _
      have : (cur.toList.take n ++ Lib.strCells s).length = (n + s.size) * 1 := by rw [List.length_append, hol, hsl]; omega
      rw [← this]; exact List.take_left
  · have holds : ∀ j u, (cur.toList.take n)[j]? = some u → w.cell? ((⟨g, 0, none⟩ : Addr).add j) = some u := fun j u hu => by
      rw [Addr.add_lit, Nat.zero_add]
      refine hg.cell ?_
      rw [List.getElem?_take] at hu
      split at hu
      · simpa using hu
      · cases hu
    have hr := Lib.run_append_grow_string (P := P) w t u ty e i z ht hu hi hz ⟨g, 0, none⟩ n cap (cur.toList.take n) (by rw [hsize, hol]; omega) holds s (by omega) (by simp only [maxLen] at h63; omega) (by rw [hby]; exact growslice_fits (by omega) (by omega))
    exact ⟨_, _, hr, append_grown w (some g) e 1 z hzs _ _ _ _ (by rw [List.length_append, hol, hsl]; omega) h63⟩
/-- 'append(b, s...)', b of the call's own making. -/
theorem append_str_local {B : Nat} {v : Value} {n : Nat} {xs : List Value} {t u ty : TypeId} {i : TypeInfo} {z : Value} (ht : P.underlying t = some (.slice e)) (hu : P.underlying u = some .string) (hi : P.info? e = some i) (hz : i.zero = some z)
    (hsize : i.size = 1) (hby : i.bytes = 1) (hzs : z.cells.size = 1) (h : SliceIs w B e v n xs) (hB : B ≤ w.heap.size) (hn : 0 < n) (s : ByteArray) (hb : n + s.size ≤ 1000000000) :
    ∃ v' w', (Builtin.append_ #[t, u] ty #[v, .string s]).run P w = .ok v' w' ∧ SliceIs w' B e v' (n + s.size) (xs ++ Lib.strCells s) ∧ Below B w w' := by
  rcases h.2 with ⟨rfl, rfl⟩ | ⟨g, cap, cur, rfl, h2, h3, h4, h5, h6, h7⟩
  · omega
  · obtain ⟨v', w', hr, g', cap', cur', rfl, q1, q2, q3, q4, q5, q6, q7⟩ := run_append_row_str (P := P) (ty := ty) ht hu hi hz hsize hby hzs g n cap cur h3 h4 h5 h6 s (by unfold maxLen; omega) (by omega)
    refine ⟨_, w', hr, ⟨by rw [List.length_append, h.1, Lib.strCells_length], .inr ⟨g', cap', cur', rfl, ?_, q1, by omega, q3, q4, by rw [Nat.mul_one] at q5; rw [q5, h7]⟩⟩, belowChg (Below.refl _ _) q7 hB fun k hk _ => by cases hk; exact h2⟩
    rcases q6 with q6 | q6
    · cases q6; exact h2
    · omega
/-- 'append(a, b...)', both of the call's own making. -/
theorem append_two_local {B B2 : Nat} {v v2 : Value} {n m : Nat} {xs ys : List Value} {t ty : TypeId} {i : TypeInfo} {z : Value} (ht : P.underlying t = some (.slice e)) (hi : P.info? e = some i) (hz : i.zero = some z)
    (hsize : i.size = 1) (hby : i.bytes = 1) (hzs : z.cells.size = 1) (h : SliceIs w B e v n xs) (hB : B ≤ w.heap.size) (h2 : SliceIs w B2 e v2 m ys) (hm : 0 < m) (h1 : ∀ y ∈ ys, y.oneCell' = true) (hb : n + m ≤ 1000000000) :
    ∃ v' w', (Builtin.append_ #[t, t] ty #[v, v2]).run P w = .ok v' w' ∧ SliceIs w' B e v' (n + m) (xs ++ ys) ∧ Below B w w' := by
  obtain ⟨a, c, rfl, harg⟩ := h2.arg
  obtain ⟨b, o, rfl, hc⟩ := harg.2.resolve_left (by omega)
  refine run_append_local (P := P) ht hi hz hsize hby hzs h hB ⟨b, o, none⟩ m c ys hm h2.1 (fun j u hu => ?_) h1 (by unfold maxLen; omega) (by omega)
  obtain ⟨hlt, hu'⟩ := List.getElem?_eq_some_iff.1 hu
  rw [Addr.add_lit, hc j (by rw [← h2.1]; exact hlt)]
  simp only [List.getD, hu, Option.getD_some]
end
theorem append_bytes2 {w : World} {B B2 : Nat} {v v2 : Value} {n m : Nat} {xs ys : List UInt8} (h : SliceIs w B 5 v n (xs.map u8v)) (hB : B ≤ w.heap.size) (h2 : SliceIs w B2 5 v2 m (ys.map u8v)) (hm : 0 < m) (hb : n + m ≤ 1000000000) :
    ∃ v' w', (Builtin.append_ #[90, 90] 90 #[v, v2]).run Tryz.prog w = .ok v' w' ∧ SliceIs w' B 5 v' (n + m) ((xs ++ ys).map u8v) ∧ Below B w w' := by
  obtain ⟨i0, g1, g2, g3, g4⟩ := info_parts info_u8
  rw [List.map_append]
  exact append_two_local (P := Tryz.prog) Tryz.underlying90 g1 g2 g3 g4 rfl h hB h2 hm (by simp; intro x _; rfl) hb
theorem append_bytes_str {w : World} {B : Nat} {v : Value} {n : Nat} {xs : List UInt8} (h : SliceIs w B 5 v n (xs.map u8v)) (hB : B ≤ w.heap.size) (hn : 0 < n) (s : ByteArray) (hb : n + s.size ≤ 1000000000) :
    ∃ v' w', (Builtin.append_ #[90, 9] 90 #[v, .string s]).run Tryz.prog w = .ok v' w' ∧ SliceIs w' B 5 v' (n + s.size) ((xs ++ s.data.toList).map u8v) ∧ Below B w w' := by
  obtain ⟨i0, g1, g2, g3, g4⟩ := info_parts info_u8
  rw [List.map_append]
  exact append_str_local (P := Tryz.prog) Tryz.underlying90 Tryz.underlying9 g1 g2 g3 g4 rfl h hB hn s hb
/-- A slice literal's row. -/
theorem made_bytes {w : World} (xs : List UInt8) (vs : Array Value) (h : vs.toList = xs.map u8v) {n : Nat} (hn : xs.length = n) (hm : n ≤ 1000000000) : SliceIs (w.alloc (.cells vs 5)) w.heap.size 5 (.slice (some ⟨w.heap.size, 0, none⟩) n n) n (xs.map u8v) := by
  have hs : vs.size = n := by rw [← Array.length_toList, h, List.length_map, hn]
  exact ⟨by simp [hn], .inr ⟨w.heap.size, n, vs, rfl, Nat.le_refl _, .of (heap_new _ _), hs, Nat.le_refl _, by unfold maxLen; omega, by rw [h, List.take_of_length_le (by simp [hn])]⟩⟩
/-- A copy in a region that does not draw, its run known. -/
theorem wpList_copy_run {P : Program} {ops : Array Oper} {Q : Exit → Act → World → Prop} {rest : List Oper} {o : Oper} {a : Act} {w w' : World} {s x : Operand} {t u : TypeId} {v : Value} (hg : o.guard = none)
    (ho : o.op = .call { callee := .builtin .copy, args := #[s, x], argTypes := #[t, u] }) (hr : (Builtin.copy_ #[t, u] o.type #[a.eval s, a.eval x]).run P w = .ok v w')
    (h : wpList P ops Q rest (a.put o.dst v) w') : wpList P ops Q (o :: rest) a w :=
  wpList_plain hg fun K hK => by unfold Oper.wp; rw [exec_copy ho hr]; exact hK _ _ h
/-- A copy of bytes, maybe of none. -/
theorem copy_bytes {w : World} {g o dl dc : Nat} {cur : Array Value} (hg : RowAt w g 5 cur) (a : Option Addr) (xs : List UInt8) (n sc : Nat) (hn : xs.length = n) (hd : n ≤ dl) (ho : o + n ≤ cur.size)
    (h : n = 0 ∨ ∃ b q, a = some ⟨b, q, none⟩ ∧ ∀ i (hi : i < xs.length), w.cell? ⟨b, q + i, none⟩ = some (.int .u8 xs[i].toNat)) :
    (Builtin.copy_ #[90, 90] 3 #[.slice (some ⟨g, o, none⟩) dl dc, .slice a n sc]).run Tryz.prog w = .ok (.int .i64 (n : Nat)) (w.setRow g (spliced cur o (xs.map u8v))) := by
  obtain ⟨i0, g1, g2, g3, g4⟩ := info_parts info_u8
  cases a with
  | none =>
    have h0 : n = 0 := by
      rcases h with h | ⟨b, q, h, _⟩
      · exact h
      · cases h
    subst h0
    have hx : xs = [] := List.eq_nil_of_length_eq_zero hn
    subst hx
    have hs : spliced cur o ([].map u8v) = cur := by
      apply Array.toList_inj.1
      simp [spliced]
    rw [hs, hg.setSame]
    simp [Builtin.copy_, run_underlying Tryz.underlying90, sizeOf, typeInfo, g1, g3, Builtin.lenOf, Builtin.firstCells, goInt, storeCells]
  | some A =>
    refine run_copy_row (P := Tryz.prog) w _ _ _ _ i0 Tryz.underlying90 g1 g3 g o dl dc cur hg A n sc n (by omega) ho (xs.map u8v) (by simp [hn]) (fun j u hu => ?_) (by simp; intro x _; rfl)
    rw [List.getElem?_map] at hu
    cases hb : xs[j]? with
    | none => rw [hb] at hu; cases hu
    | some c =>
      rw [hb] at hu
      obtain ⟨hj, hcj⟩ := List.getElem?_eq_some_iff.1 hb
      obtain ⟨b, q, hab, hc⟩ := h.resolve_left (by omega)
      cases hab
      rw [Addr.add_lit, hc j hj, hcj]
      simpa using hu
/-- The bytes of a slice of the call's own making. -/
theorem SliceIs.arg_bytes {w : World} {B n : Nat} {a : Option Addr} {m c : Nat} {xs : List UInt8} (h : SliceIs w B 5 (.slice a m c) n (xs.map u8v)) (hn : 0 < n) : ∃ b o, a = some ⟨b, o, none⟩ ∧ ∀ i (hi : i < xs.length), w.cell? ⟨b, o + i, none⟩ = some (.int .u8 xs[i].toNat) := by
  obtain ⟨a', c', e, harg⟩ := h.arg
  cases e
  obtain ⟨b, o, e, hc⟩ := harg.2.resolve_left (by omega)
  refine ⟨b, o, e, fun i hi => ?_⟩
  have hl : xs.length = n := by simpa using h.1
  rw [hc i (by omega)]
  simp [List.getD, hi]
end Go.Proofs.YtlecnlnpgghmbaaGreatDoor

/- pack.entry. -/
namespace Go.Proofs.YtlecnlnpgghmbaaGreatDoor
set_option linter.unusedVariables false
set_option linter.unusedSimpArgs false
open Go.RowKit
/-- The conversions to fewer bits, as the walk meets them. -/
theorem i8_fit {n : Int} : (n == wrap64 (IntKind.i8.wrap n)) = decide (-128 ≤ n ∧ n ≤ 127) := by
  rw [Bool.eq_iff_iff, beq_iff_eq, decide_eq_true_iff]
  have h1 : IntKind.i8.wrap n = (n + 128) % 256 - 128 := by simp [IntKind.wrap, IntKind.bits, IntKind.signed, Int.bmod]; omega
  rw [h1]
  have h2 : wrap64 ((n + 128) % 256 - 128) = (n + 128) % 256 - 128 := by unfold wrap64; omega
  rw [h2]; omega
theorem i16_fit {n : Int} : (n == wrap64 (IntKind.i16.wrap n)) = decide (-32768 ≤ n ∧ n ≤ 32767) := by
  rw [Bool.eq_iff_iff, beq_iff_eq, decide_eq_true_iff]
  have h1 : IntKind.i16.wrap n = (n + 32768) % 65536 - 32768 := by simp [IntKind.wrap, IntKind.bits, IntKind.signed, Int.bmod]; omega
  rw [h1]
  have h2 : wrap64 ((n + 32768) % 65536 - 32768) = (n + 32768) % 65536 - 32768 := by unfold wrap64; omega
  rw [h2]; omega
theorem i32_fit {n : Int} : (n == wrap64 (wrap32 n)) = decide (-2147483648 ≤ n ∧ n ≤ 2147483647) := by
  rw [Bool.eq_iff_iff, beq_iff_eq, decide_eq_true_iff]
  have h1 : wrap32 n = (n + 2147483648) % 4294967296 - 2147483648 := by unfold wrap32; omega
  rw [h1]
  have h2 : wrap64 ((n + 2147483648) % 4294967296 - 2147483648) = (n + 2147483648) % 4294967296 - 2147483648 := by unfold wrap64; omega
  rw [h2]; omega
set_option maxHeartbeats 3200000 in
set_option maxRecDepth 100000 in
theorem entry_any (s : ByteArray) (hs : s.size ≤ 100000000) {w : World} (hl : Laid w) :
    Calls Tryz.prog 106 #[.string s] w fun e w' => ∃ v', e = .returned v' ∧ SliceIs w' w.heap.size 5 v' (entL s).length ((entL s).map u8v) ∧ Below w.heap.size w w' := by
  have HI := Lib.hid (int_any s (by omega) hl)
  obtain ⟨hd, hhd⟩ : ∃ hd, headL s = hd := ⟨_, rfl⟩
  obtain ⟨nh, hnh⟩ : ∃ nh, hd.length = nh := ⟨_, rfl⟩
  have hnh1 : 1 ≤ nh ∧ nh ≤ 100000009 := by have := headL_length s; rw [hhd, hnh] at this; omega
  have HE := Lib.hid (show entL s = hd ++ backL nh by unfold entL; rw [hhd, hnh])
  have HNh := Lib.hid hnh
  clear hl
  cases hn : intS s with
  | some n =>
    have hr := intS_range hn
    have hh := headL_int hn
    rw [hhd] at hh
    have hv : intV s = .tuple #[.int .i64 n, .bool true] := by unfold intV; rw [hn]
    rw [hv] at HI
    obtain ⟨m, hm⟩ : ∃ m, (n % 18446744073709551616).toNat = m := ⟨_, rfl⟩
    rw [hm] at hh
    have hml : m < 18446744073709551616 := by omega
    have hwu : IntKind.u64.wrap n = (m : Int) := by rw [IntKind.wrap_u64]; omega
    have hw8 : n % 256 = (m : Int) % 256 := by omega
    by_cases h8 : -128 ≤ n ∧ n ≤ 127
    · have hc8 : (n == wrap64 (IntKind.i8.wrap n)) = true := by rw [i8_fit]; exact decide_eq_true h8
      have hw : wideI n = 1 := by unfold wideI; rw [if_pos h8]
      rw [hw] at hh
      have hcells : (#[.int .u8 241, .int .u8 (n % 256)] : Array Value).toList = hd.map u8v := by
        rw [hh]
        simp only [leN, List.map_cons, List.map_nil, u8v_of, hw8]
        rfl
      have hn2 : nh = 2 := by rw [← hnh, hh]; simp
      have HMk := Lib.hid (fun w => made_bytes (w := w) hd _ hcells (n := 2) (by omega) (by omega))
      have HBk := Lib.hid (fun w => back_any 2 (by omega) w)
      subst hn2
      clear hr hh hwu hw8 hcells hv hm hw hnh hhd hn
      go_enter Tryz.func106, Tryz.ntmps106
      go_wp2_with fail
      refine HI.out.mono ?_
      rintro e w1 ⟨rfl, b1⟩
      have B1 := Lib.hid b1
      clear b1
      go_wp2_with fail
      refine (HBk.out _).mono ?_
      rintro e w3 ⟨v3, rfl, s3, b3⟩
      have s2 := (HMk.out w1).below b3
      have bb : Below w1.heap.size w1 w3 := ((Below.refl _ _).alloc (Nat.le_refl _) _).trans (b3.mono (by simp))
      obtain ⟨v4, w4, r4, s4, b4⟩ := append_bytes2 s2 bb.size s3 (by have := backL_length 2 (by omega); omega) (by have := backL_length 2 (by omega); omega)
      have HR := Lib.hid r4
      have HS := Lib.hid (And.intro s4 ((B1.out).trans ((bb.trans b4).mono B1.out.size)))
      clear s2 s3 s4 r4 b3 b4 bb
      go_wp2_with (at_builtin; refine wpList_append_run rfl rfl HR.out ?_)
      go_ret
      refine ⟨_, rfl, ?_, HS.out.2⟩
      rw [HE.out, List.length_append, HNh.out]
      exact HS.out.1.mono B1.out.size
    · by_cases h16 : -32768 ≤ n ∧ n ≤ 32767
      · have hc8 : (n == wrap64 (IntKind.i8.wrap n)) = false := by rw [i8_fit]; exact decide_eq_false h8
        have hc16 : (n == wrap64 (IntKind.i16.wrap n)) = true := by rw [i16_fit]; exact decide_eq_true h16
        have hw : wideI n = 2 := by unfold wideI; rw [if_neg h8, if_pos h16]
        rw [hw] at hh
        have HH := Lib.hid (show hd = [(242 : UInt8)] ++ leN 2 m from hh)
        have hn2 : nh = 3 := by rw [← hnh, hh]; simp
        have HMk := Lib.hid (fun w => made_bytes (w := w) [(242 : UInt8)] #[.int .u8 242] rfl (n := 1) rfl (by omega))
        have HBk := Lib.hid (fun w => back_any 3 (by omega) w)
        subst hn2
        clear hr hh hw8 hv hm hw hnh hhd hn
        go_enter Tryz.func106, Tryz.ntmps106
        go_wp2_with fail
        refine HI.out.mono ?_
        rintro e w1 ⟨rfl, b1⟩
        have B1 := Lib.hid b1
        clear b1
        have HAp := Lib.hid (octAppend (HMk.out w1) (by simp) m 2 hml (by omega) (by simp))
        go_wp2_with fail
        refine HAp.out.mono ?_
        rintro e w2 ⟨v2, rfl, s2, b2⟩
        rw [show ([(242 : UInt8)] ++ leN 2 m).length = 3 by simp] at s2
        obtain ⟨a2, c2, rfl, _⟩ := s2.arg
        have B2 := Lib.hid (show Below w1.heap.size w1 w2 from ((Below.refl _ _).alloc (Nat.le_refl _) _).trans b2)
        have S2 := Lib.hid s2
        clear s2 b2 HAp
        go_wp2_with fail
        refine (HBk.out _).mono ?_
        rintro e w3 ⟨v3, rfl, s3, b3⟩
        have s2 := S2.out.below b3
        rw [show [(242 : UInt8)] ++ leN 2 m = hd from HH.out.symm] at s2
        have bb : Below w1.heap.size w1 w3 := B2.out.trans (b3.mono B2.out.size)
        obtain ⟨v4, w4, r4, s4, b4⟩ := append_bytes2 s2 bb.size s3 (by have := backL_length 3 (by omega); omega) (by have := backL_length 3 (by omega); omega)
        have HR := Lib.hid r4
        have HS := Lib.hid (And.intro s4 ((B1.out).trans ((bb.trans b4).mono B1.out.size)))
        clear s2 s3 s4 r4 b3 b4 bb
        go_wp2_with (at_builtin; refine wpList_append_run rfl rfl HR.out ?_)
        go_ret
        refine ⟨_, rfl, ?_, HS.out.2⟩
        rw [HE.out, List.length_append, HNh.out]
        exact HS.out.1.mono B1.out.size
      · by_cases h32 : -2147483648 ≤ n ∧ n ≤ 2147483647
        · have hc8 : (n == wrap64 (IntKind.i8.wrap n)) = false := by rw [i8_fit]; exact decide_eq_false h8
          have hc16 : (n == wrap64 (IntKind.i16.wrap n)) = false := by rw [i16_fit]; exact decide_eq_false h16
          have hc32 : (n == wrap64 (wrap32 n)) = true := by rw [i32_fit]; exact decide_eq_true h32
          have hw : wideI n = 4 := by unfold wideI; rw [if_neg h8, if_neg h16, if_pos h32]
          rw [hw] at hh
          have HH := Lib.hid (show hd = [(244 : UInt8)] ++ leN 4 m from hh)
          have hn2 : nh = 5 := by rw [← hnh, hh]; simp
          have HMk := Lib.hid (fun w => made_bytes (w := w) [(244 : UInt8)] #[.int .u8 244] rfl (n := 1) rfl (by omega))
          have HBk := Lib.hid (fun w => back_any 5 (by omega) w)
          subst hn2
          clear hr hh hw8 hv hm hw hnh hhd hn
          go_enter Tryz.func106, Tryz.ntmps106
          go_wp2_with fail
          refine HI.out.mono ?_
          rintro e w1 ⟨rfl, b1⟩
          have B1 := Lib.hid b1
          clear b1
          have HAp := Lib.hid (octAppend (HMk.out w1) (by simp) m 4 hml (by omega) (by simp))
          go_wp2_with fail
          refine HAp.out.mono ?_
          rintro e w2 ⟨v2, rfl, s2, b2⟩
          rw [show ([(244 : UInt8)] ++ leN 4 m).length = 5 by simp] at s2
          obtain ⟨a2, c2, rfl, _⟩ := s2.arg
          have B2 := Lib.hid (show Below w1.heap.size w1 w2 from ((Below.refl _ _).alloc (Nat.le_refl _) _).trans b2)
          have S2 := Lib.hid s2
          clear s2 b2 HAp
          go_wp2_with fail
          refine (HBk.out _).mono ?_
          rintro e w3 ⟨v3, rfl, s3, b3⟩
          have s2 := S2.out.below b3
          rw [show [(244 : UInt8)] ++ leN 4 m = hd from HH.out.symm] at s2
          have bb : Below w1.heap.size w1 w3 := B2.out.trans (b3.mono B2.out.size)
          obtain ⟨v4, w4, r4, s4, b4⟩ := append_bytes2 s2 bb.size s3 (by have := backL_length 5 (by omega); omega) (by have := backL_length 5 (by omega); omega)
          have HR := Lib.hid r4
          have HS := Lib.hid (And.intro s4 ((B1.out).trans ((bb.trans b4).mono B1.out.size)))
          clear s2 s3 s4 r4 b3 b4 bb
          go_wp2_with (at_builtin; refine wpList_append_run rfl rfl HR.out ?_)
          go_ret
          refine ⟨_, rfl, ?_, HS.out.2⟩
          rw [HE.out, List.length_append, HNh.out]
          exact HS.out.1.mono B1.out.size
        · have hc8 : (n == wrap64 (IntKind.i8.wrap n)) = false := by rw [i8_fit]; exact decide_eq_false h8
          have hc16 : (n == wrap64 (IntKind.i16.wrap n)) = false := by rw [i16_fit]; exact decide_eq_false h16
          have hc32 : (n == wrap64 (wrap32 n)) = false := by rw [i32_fit]; exact decide_eq_false h32
          have hw : wideI n = 8 := by unfold wideI; rw [if_neg h8, if_neg h16, if_neg h32]
          rw [hw] at hh
          have HH := Lib.hid (show hd = [(248 : UInt8)] ++ leN 8 m from hh)
          have hn2 : nh = 9 := by rw [← hnh, hh]; simp
          have HMk := Lib.hid (fun w => made_bytes (w := w) [(248 : UInt8)] #[.int .u8 248] rfl (n := 1) rfl (by omega))
          have HBk := Lib.hid (fun w => back_any 9 (by omega) w)
          subst hn2
          clear hr hh hw8 hv hm hw hnh hhd hn
          go_enter Tryz.func106, Tryz.ntmps106
          go_wp2_with fail
          refine HI.out.mono ?_
          rintro e w1 ⟨rfl, b1⟩
          have B1 := Lib.hid b1
          clear b1
          have HAp := Lib.hid (octAppend (HMk.out w1) (by simp) m 8 hml (by omega) (by simp))
          go_wp2_with fail
          refine HAp.out.mono ?_
          rintro e w2 ⟨v2, rfl, s2, b2⟩
          rw [show ([(248 : UInt8)] ++ leN 8 m).length = 9 by simp] at s2
          obtain ⟨a2, c2, rfl, _⟩ := s2.arg
          have B2 := Lib.hid (show Below w1.heap.size w1 w2 from ((Below.refl _ _).alloc (Nat.le_refl _) _).trans b2)
          have S2 := Lib.hid s2
          clear s2 b2 HAp
          go_wp2_with fail
          refine (HBk.out _).mono ?_
          rintro e w3 ⟨v3, rfl, s3, b3⟩
          have s2 := S2.out.below b3
          rw [show [(248 : UInt8)] ++ leN 8 m = hd from HH.out.symm] at s2
          have bb : Below w1.heap.size w1 w3 := B2.out.trans (b3.mono B2.out.size)
          obtain ⟨v4, w4, r4, s4, b4⟩ := append_bytes2 s2 bb.size s3 (by have := backL_length 9 (by omega); omega) (by have := backL_length 9 (by omega); omega)
          have HR := Lib.hid r4
          have HS := Lib.hid (And.intro s4 ((B1.out).trans ((bb.trans b4).mono B1.out.size)))
          clear s2 s3 s4 r4 b3 b4 bb
          go_wp2_with (at_builtin; refine wpList_append_run rfl rfl HR.out ?_)
          go_ret
          refine ⟨_, rfl, ?_, HS.out.2⟩
          rw [HE.out, List.length_append, HNh.out]
          exact HS.out.1.mono B1.out.size
  | none =>
    have hv : intV s = .tuple #[.int .i64 0, .bool false] := by unfold intV; rw [hn]
    rw [hv] at HI
    have hsl := size_list s
    by_cases hsh : s.size < 128
    · have hh := headL_short hn hsh
      rw [hhd] at hh
      have hd128 : decide ((s.size : Int) < 128) = true := by simp; omega
      have hcells : (#[.int .u8 (s.size : Int)] : Array Value).toList = [UInt8.ofNat s.size].map u8v := by
        simp only [List.map_cons, List.map_nil, u8v_of]
        rw [Int.emod_eq_of_lt (by omega) (by omega)]
      have HMk := Lib.hid (fun w => made_bytes (w := w) [UInt8.ofNat s.size] _ hcells (n := 1) rfl (by omega))
      have hnl : nh = 1 + s.size := by rw [← hnh, hh, List.length_cons, hsl]; omega
      have HBk := Lib.hid (fun w => back_any (1 + s.size) (by omega) w)
      have HH := Lib.hid (show hd = [UInt8.ofNat s.size] ++ s.data.toList from hh)
      have HBl := Lib.hid (backL_length (1 + s.size) (by omega))
      subst hnl
      clear hh hcells hv hhd hn hnh hsl
      go_enter Tryz.func106, Tryz.ntmps106
      go_wp2_with fail
      refine HI.out.mono ?_
      rintro e w1 ⟨rfl, b1⟩
      have B1 := Lib.hid b1
      obtain ⟨v2, w2, r2, s2, b2⟩ := append_bytes_str (HMk.out w1) (by simp) (by omega) s (by omega)
      have HR2 := Lib.hid r2
      obtain ⟨a2, c2, rfl, _⟩ := s2.arg
      have S2 := Lib.hid s2
      have B2 := Lib.hid (show Below w1.heap.size w1 w2 from ((Below.refl _ _).alloc (Nat.le_refl _) _).trans b2)
      clear b1 r2 s2 b2
      go_wp2_with (at_builtin; refine wpList_append_run rfl rfl HR2.out ?_)
      refine (HBk.out _).mono ?_
      rintro e w3 ⟨v3, rfl, s3, b3⟩
      have s2 := S2.out.below b3
      rw [← HH.out] at s2
      have bb : Below w1.heap.size w1 w3 := B2.out.trans (b3.mono B2.out.size)
      obtain ⟨v4, w4, r4, s4, b4⟩ := append_bytes2 s2 bb.size s3 (by have := HBl.out; omega) (by have := HBl.out; omega)
      have HR := Lib.hid r4
      have HS := Lib.hid (And.intro s4 ((B1.out).trans ((bb.trans b4).mono B1.out.size)))
      clear s2 s3 s4 r4 b3 b4 bb
      go_wp2_with (at_builtin; refine wpList_append_run rfl rfl HR.out ?_)
      go_ret
      refine ⟨_, rfl, ?_, HS.out.2⟩
      rw [HE.out, List.length_append, HNh.out]
      exact HS.out.1.mono B1.out.size
    · have hh := headL_long hn (by omega)
      rw [hhd] at hh
      have hd128 : decide ((s.size : Int) < 128) = false := by simp; omega
      have hcells : (#[.int .u8 128, .int .u8 ((s.size : Int) % 256), .int .u8 ((s.size : Int) / 256 % 256), .int .u8 ((s.size : Int) / 65536 % 256)] : Array Value).toList = (128 :: leN 3 s.size).map u8v := by
        simp only [leN, List.map_cons, List.map_nil, u8v_of, Nat.div_div_eq_div_mul]
        rfl
      have HMk := Lib.hid (fun w => made_bytes (w := w) (128 :: leN 3 s.size) _ hcells (n := 4) (by simp) (by omega))
      have hnl : nh = 4 + s.size := by rw [← hnh, hh, List.length_cons, List.length_append, leN_length, hsl]; omega
      have HBk := Lib.hid (fun w => back_any (4 + s.size) (by omega) w)
      have HH := Lib.hid (show hd = (128 :: leN 3 s.size) ++ s.data.toList from hh)
      have HBl := Lib.hid (backL_length (4 + s.size) (by omega))
      subst hnl
      clear hh hcells hv hhd hn hnh hsl
      go_enter Tryz.func106, Tryz.ntmps106
      go_wp2_with fail
      refine HI.out.mono ?_
      rintro e w1 ⟨rfl, b1⟩
      have B1 := Lib.hid b1
      obtain ⟨v2, w2, r2, s2, b2⟩ := append_bytes_str (HMk.out w1) (by simp) (by omega) s (by omega)
      have HR2 := Lib.hid r2
      obtain ⟨a2, c2, rfl, _⟩ := s2.arg
      have S2 := Lib.hid s2
      have B2 := Lib.hid (show Below w1.heap.size w1 w2 from ((Below.refl _ _).alloc (Nat.le_refl _) _).trans b2)
      clear b1 r2 s2 b2
      go_wp2_with (at_builtin; refine wpList_append_run rfl rfl HR2.out ?_)
      refine (HBk.out _).mono ?_
      rintro e w3 ⟨v3, rfl, s3, b3⟩
      have s2 := S2.out.below b3
      rw [← HH.out] at s2
      have bb : Below w1.heap.size w1 w3 := B2.out.trans (b3.mono B2.out.size)
      obtain ⟨v4, w4, r4, s4, b4⟩ := append_bytes2 s2 bb.size s3 (by have := HBl.out; omega) (by have := HBl.out; omega)
      have HR := Lib.hid r4
      have HS := Lib.hid (And.intro s4 ((B1.out).trans ((bb.trans b4).mono B1.out.size)))
      clear s2 s3 s4 r4 b3 b4 bb
      go_wp2_with (at_builtin; refine wpList_append_run rfl rfl HR.out ?_)
      go_ret
      refine ⟨_, rfl, ?_, HS.out.2⟩
      rw [HE.out, List.length_append, HNh.out]
      exact HS.out.1.mono B1.out.size
end Go.Proofs.YtlecnlnpgghmbaaGreatDoor

namespace Go.Proofs.YtlecnlnpgghmbaaGreatDoor
set_option linter.unusedVariables false
set_option linter.unusedSimpArgs false
open Go.RowKit

theorem lowStep (xs : List UInt8) (k : Nat) (h : k < xs.length) (h8 : xs.length ≤ 8) :
    bits .or .u64 (IntKind.u64.wrap ((lowN (xs.drop (k + 1)) : Nat) * 256)) (IntKind.u64.wrap (xs[k].toNat : Int)) = ((lowN (xs.drop k) : Nat) : Int) := by
  have h1 := lowN_drop xs k h
  have h2 := lowN_lt64 (xs.drop k) (by simp; omega)
  have h3 := xs[k].toNat_lt
  rw [IntWalk.u64_in _ ⟨by omega, by omega⟩, IntWalk.u64_in _ ⟨by omega, by omega⟩]
  have := u64_or_low (lowN (xs.drop (k + 1))) xs[k].toNat (by omega) (by omega)
  rw [h1, ← this]; congr 1

set_option maxHeartbeats 400000 in
theorem low_any (b o len cap : Nat) (xs : List UInt8) (w : World) (hlen : xs.length = len) (h8 : len ≤ 8)
    (hc : ∀ i (h : i < xs.length), w.cell? ⟨b, o + i, none⟩ = some (.int .u8 xs[i].toNat)) :
    Calls Tryz.prog 103 #[.slice (some ⟨b, o, none⟩) len cap] w fun e w' => e = .returned (.int .u64 (lowN xs : Nat)) ∧ w = w' := by
  subst hlen
  have HC := Lib.hid hc
  clear hc
  go_enter Tryz.func103, Tryz.ntmps103
  go_wp2
  go_loop [2, 3] (fun n i => ∃ k : Nat, k ≤ xs.length ∧ i = .int .i64 ((k : Int) - 1) ∧ n = .int .u64 (lowN (xs.drop k) : Nat)) (fun _ i => (intOf i + 1).toNat)
  case atStart => exact ⟨xs.length, Nat.le_refl _, rfl, by simp [lowN]⟩
  case round =>
    obtain ⟨k, hk, rfl, rfl⟩ := hrel
    cases k with
    | zero =>
      go_wp2
      go_ret
      exact ⟨rfl, rfl⟩
    | succ k =>
      have hcell := HC.out k (by omega)
      go_wp2
      go_round
      case rel => exact ⟨k, by omega, rfl, by rw [lowStep xs k hk h8]⟩
      case measure => simp [intOf]

set_option maxHeartbeats 400000 in
theorem put_any (b o len cap : Nat) (n : Nat) (cs : Array Value) (E : TypeId) (w : World) (hl : len ≤ 8) (ho : o + len ≤ cs.size)
    (hb : RowAt w b E cs) :
    Calls Tryz.prog 118 #[.slice (some ⟨b, o, none⟩) len cap, .int .u64 n] w fun e w' => e = .returned (.tuple #[]) ∧ w' = w.setRow b (wrs cs o ((leN len n).map u8v)) := by
  have HB := Lib.hid hb
  clear hb
  go_enter Tryz.func118, Tryz.ntmps118
  go_wp2
  go_loopw [1, 4, 7] (fun m _ i wr => ∃ k : Nat, k ≤ len ∧ i = .int .i64 (k : Int) ∧ m = .int .u64 ((n / 256 ^ k : Nat) : Int) ∧ wr = w.setRow b (wrs cs o ((leN k n).map u8v))) (fun _ _ i _ => len - (intOf i).toNat)
  case atStart => exact ⟨0, Nat.zero_le _, rfl, by simp, HB.out.setSame.symm⟩
  case round =>
    obtain ⟨k, hk, rfl, rfl, rfl⟩ := hrel
    have hrow := HB.out.setRow (cs := wrs cs o ((leN k n).map u8v)) (by simp)
    by_cases hlt : k < len
    · have hcell : (w.setRow b (wrs cs o ((leN k n).map u8v))).cell? ⟨b, o + k, none⟩ = some ((wrs cs o ((leN k n).map u8v))[o + k]'(by simp; omega)) := hrow.cell (by simp)
      have hfr : (w.setRow b (wrs cs o ((leN k n).map u8v))).frozen? ⟨b, o + k, none⟩ = false := hrow.free (by simp; omega)
      clear hrow
      go_wp2
      go_roundw
      case rel => 
        refine ⟨k + 1, by omega, by go_num, ?_, ?_⟩
        · rw [Nat.pow_succ, ← Nat.div_div_eq_div_mul]; simp
        · rw [HB.out.setSet, leN_snoc, List.map_append, List.map_cons, List.map_nil, wrs_snoc]
          simp [u8v_of]
      case measure => simp [intOf]; omega
    · have : k = len := by omega
      subst this
      go_wp2
      go_end0
      exact ⟨rfl, rfl⟩
end Go.Proofs.YtlecnlnpgghmbaaGreatDoor

/- pack.read. -/
namespace Go.Proofs.YtlecnlnpgghmbaaGreatDoor
set_option linter.unusedVariables false
set_option linter.unusedSimpArgs false
open Go.RowKit
set_option maxHeartbeats 800000 in
set_option maxRecDepth 100000 in
theorem whole_any (n : Int) (hn : -9223372036854775808 ≤ n ∧ n ≤ 9223372036854775807) (k : Nat) (hk : k ≤ 8) {w : World} (hl : Laid w) :
    Calls Tryz.prog 120 #[.int .i64 n, .int .i64 k] w fun e w' => e = .returned (.tuple #[.string (intT n), .int .i64 ((1 + k : Nat) : Int), .bool true]) ∧ Below w.heap.size w w' := by
  have H := Lib.hid (intText_any n hn hl)
  clear hl
  go_enter Tryz.func120, Tryz.ntmps120
  go_wp2_with fail
  refine H.out.mono ?_
  rintro e w1 ⟨rfl, b1⟩
  have B1 := Lib.hid b1
  clear b1 H
  go_wp2_with fail
  go_ret3
  exact ⟨rfl, B1.out⟩
def readV (bs : List UInt8) : Value := match readL bs with
  | some (x, k) => .tuple #[.string x, .int .i64 k, .bool true]
  | none => .tuple #[.string ByteArray.empty, .int .i64 0, .bool false]
theorem cells_conv {w : World} {b o m cap : Nat} {xs : List UInt8} (hm : xs.length = m) (hc : ∀ i (h : i < xs.length), w.cell? ⟨b, o + i, none⟩ = some (.int .u8 xs[i].toNat)) :
    (convert 90 9 (.slice (some ⟨b, o, none⟩) m cap)).run Tryz.prog w = .ok (.string (strOf xs)) w :=
  run_string_row w _ _ 5 Tryz.underlying90 Tryz.underlying5 Tryz.underlying9 b o m cap xs hm hc
set_option maxHeartbeats 800000 in
set_option maxRecDepth 100000 in
theorem read_nil (b o cap : Nat) {w : World} :
    Calls Tryz.prog 111 #[.slice (some ⟨b, o, none⟩) 0 cap] w fun e w' => e = .returned (.tuple #[.string ByteArray.empty, .int .i64 0, .bool false]) ∧ Below w.heap.size w w' := by
  go_enter Tryz.func111, Tryz.ntmps111
  go_wp2_with fail
  go_ret3
  exact ⟨rfl, Below.refl _ _⟩
set_option maxHeartbeats 1600000 in
set_option maxRecDepth 100000 in
theorem read_short (b o m cap c : Nat) (xs : List UInt8) {w : World} (hxs : xs.length = c) (hc : c < 128) (hm : m + 1 ≤ cap) (hcap1 : ¬ cap = 1) (hmx : m ≤ 4000000000) (h0 : w.cell? ⟨b, o, none⟩ = some (.int .u8 c))
    (hcell : c ≤ m → ∀ i (h : i < xs.length), w.cell? ⟨b, o + 1 + i, none⟩ = some (.int .u8 xs[i].toNat)) :
    Calls Tryz.prog 111 #[.slice (some ⟨b, o, none⟩) (m + 1) cap] w fun e w' => e = .returned (if c ≤ m then .tuple #[.string (strOf xs), .int .i64 ((1 + c : Nat) : Int), .bool true] else .tuple #[.string ByteArray.empty, .int .i64 0, .bool false]) ∧ Below w.heap.size w w' := by
  have hand15 : bits .and .u8 (c : Int) 15 = ((c % 16 : Nat) : Int) := by
    rw [show (15 : Int) = ((15 : Nat) : Int) from rfl, u8_and_nat c 15 (by omega) (by omega), nat_mask4]
  have hd1 : decide ((c : Int) < 128) = true := by simp; omega
  by_cases hcm : c ≤ m
  · have hcv := cells_conv (cap := cap - 1) hxs (hcell hcm)
    rw [if_pos hcm]
    have hd2 : decide (m < c) = false := by simp; omega
    have HR := Lib.hid (show Below w.heap.size w w.drew from belowN (Below.refl _ _) 1)
    obtain ⟨X1, f, hX1, hf, hF⟩ := classOf (fun x => x.cell? ⟨b, o, none⟩ = some (.int .u8 c) ∧ (convert 90 9 (.slice (some ⟨b, o + 1, none⟩) c (cap - 1))).run Tryz.prog x = .ok (.string (strOf xs)) x) ⟨h0, hcv⟩
    have hf1 := fun x => (hf x).1
    have hf2 := fun x => (hf x).2
    have hcvd : (convert 90 9 (.slice (some ⟨b, o + 1, none⟩) c (cap - 1))).run Tryz.prog w.drew = .ok (.string (strOf xs)) w.drew := cells_conv (w := w.drew) hxs (hcell hcm)
    have HF := Lib.hid (hF w.drew ⟨h0, hcvd⟩)
    obtain ⟨S, hS⟩ : ∃ S, strOf xs = S := ⟨_, rfl⟩
    rw [hS] at hf2 ⊢
    clear hF hf hcell hcv hcvd
    go_enter Tryz.func111, Tryz.ntmps111
    go_wp2_with fail
    clear h0
    refine wp_region_text ⟨[], [], 15⟩ (fun w' => ∃ x : X1, w' = f x) (by kernel_rfl) (by kernel_rfl) HF.out ?_
    refine wpC_seg false (HF.out) 15 0 _ _ (by rfl) (by rfl) ?_
    simp only [List.take_succ_cons, List.take_zero, List.drop_succ_cons, List.drop_zero, Bool.false_eq_true, if_false, Nat.zero_add, Nat.reduceAdd]
    repeat (go_big_quiet_step (fail))
    refine wpQuiet_nil ?_
    refine wpC_nil ?_
    clear hf1 hf2 hX1 HF
    go_wp2_with fail
    go_ret3
    exact ⟨rfl, HR.out⟩
  · rw [if_neg hcm]
    have hd2 : decide (m < c) = true := by simp; omega
    clear hcell
    go_enter Tryz.func111, Tryz.ntmps111
    go_wp2_with fail
    go_ret3
    exact ⟨rfl, Below.refl _ _⟩
end Go.Proofs.YtlecnlnpgghmbaaGreatDoor

/- pack.read, of long texts. -/
namespace Go.Proofs.YtlecnlnpgghmbaaGreatDoor
set_option linter.unusedVariables false
set_option linter.unusedSimpArgs false
open Go.RowKit
set_option maxHeartbeats 1600000 in
set_option maxRecDepth 100000 in
theorem read_long (b o m cap x0 x1 x2 N : Nat) (xs : List UInt8) {w : World} (hN : N = x0 + 256 * x1 + 65536 * x2) (hxs : xs.length = N) (h256 : x0 < 256 ∧ x1 < 256 ∧ x2 < 256) (hm3 : 3 ≤ m) (hm : m + 1 ≤ cap) (hcap1 : ¬ cap = 1) (hcap2 : ¬ cap - 1 = 3) (hmx : m ≤ 4000000000) (h0 : w.cell? ⟨b, o, none⟩ = some (.int .u8 128))
    (g0 : w.cell? ⟨b, o + 1, none⟩ = some (.int .u8 x0)) (g1 : w.cell? ⟨b, o + 1 + 1, none⟩ = some (.int .u8 x1)) (g2 : w.cell? ⟨b, o + 1 + 2, none⟩ = some (.int .u8 x2))
    (hcell : N ≤ m - 3 → ∀ i (h : i < xs.length), w.cell? ⟨b, o + 1 + 3 + i, none⟩ = some (.int .u8 xs[i].toNat)) :
    Calls Tryz.prog 111 #[.slice (some ⟨b, o, none⟩) (m + 1) cap] w fun e w' => e = .returned (if N ≤ m - 3 then .tuple #[.string (strOf xs), .int .i64 ((4 + N : Nat) : Int), .bool true] else .tuple #[.string ByteArray.empty, .int .i64 0, .bool false]) ∧ Below w.heap.size w w' := by
  have hand15 : bits .and .u8 128 15 = 0 := by decide
  have hd3 : decide ((3 : Int) ≤ m) = true := by simp; omega
  obtain ⟨y, hy⟩ : ∃ y, y = x0 + 256 * x1 := ⟨_, rfl⟩
  have hor1 : bits .or .i64 (x0 : Int) ((x1 : Int) * 256) = (y : Int) := by
    have e := i64_or_nat x0 (x1 * 256) (by omega) (by omega)
    rw [Int.natCast_mul] at e
    rw [show (256 : Int) = ((256 : Nat) : Int) from rfl, e]
    have h := Nat.shiftLeft_add_eq_or_of_lt (i := 8) (b := x0) (by simpa using h256.1) x1
    rw [Nat.shiftLeft_eq] at h
    simp only [Nat.reducePow] at h
    rw [Nat.or_comm, ← h]; congr 1; omega
  have hor2 : bits .or .i64 (y : Int) ((x2 : Int) * 65536) = (N : Int) := by
    have e := i64_or_nat y (x2 * 65536) (by omega) (by omega)
    rw [Int.natCast_mul] at e
    rw [show (65536 : Int) = ((65536 : Nat) : Int) from rfl, e]
    have h := Nat.shiftLeft_add_eq_or_of_lt (i := 16) (b := y) (by omega) x2
    rw [Nat.shiftLeft_eq] at h
    simp only [Nat.reducePow] at h
    rw [Nat.or_comm, ← h]; congr 1; omega
  obtain ⟨X1, f, hX1, hf, hF⟩ := classOf (fun x => x.cell? ⟨b, o + 1, none⟩ = some (.int .u8 x0) ∧ x.cell? ⟨b, o + 1 + 1, none⟩ = some (.int .u8 x1) ∧ x.cell? ⟨b, o + 1 + 2, none⟩ = some (.int .u8 x2)) ⟨g0, g1, g2⟩
  have hf1 := fun x => (hf x).1
  have hf2 := fun x => (hf x).2.1
  have hf3 := fun x => (hf x).2.2
  have HF := Lib.hid (hF w.drew ⟨g0, g1, g2⟩)
  have hNb : N < 16777216 := by omega
  obtain ⟨k0, k1, k2⟩ := h256
  have hyb : y < 65536 := by omega
  have HR := Lib.hid (show Below w.heap.size w w.drew from belowN (Below.refl _ _) 1)
  by_cases hcm : N ≤ m - 3
  · rw [if_pos hcm]
    have hd4 : decide ((m : Int) - 3 < (N : Int)) = false := by simp; omega
    have hcv : (convert 90 9 (.slice (some ⟨b, o + 1 + 3, none⟩) N (cap - 1 - 3))).run Tryz.prog w.drew = .ok (.string (strOf xs)) w.drew := cells_conv (w := w.drew) hxs (hcell hcm)
    obtain ⟨S, hS⟩ : ∃ S, strOf xs = S := ⟨_, rfl⟩
    rw [hS] at hcv ⊢
    clear hF hf hcell hN hy
    go_enter Tryz.func111, Tryz.ntmps111
    go_wp2_with fail
    refine wp_region_text ⟨[], [], 17⟩ (fun w' => ∃ x : X1, w' = f x) (by kernel_rfl) (by kernel_rfl) HF.out ?_
    refine wpC_seg false (HF.out) 17 0 _ _ (by rfl) (by rfl) ?_
    simp only [List.take_succ_cons, List.take_zero, List.drop_succ_cons, List.drop_zero, Bool.false_eq_true, if_false, Nat.zero_add, Nat.reduceAdd]
    repeat (go_big_quiet_step (fail))
    refine wpQuiet_nil ?_
    refine wpC_nil ?_
    clear hf1 hf2 hf3 hX1 HF
    go_wp2_with fail
    go_ret3
    exact ⟨rfl, HR.out⟩
  · rw [if_neg hcm]
    have hd4 : decide ((m : Int) - 3 < (N : Int)) = true := by simp; omega
    clear hF hf hcell hN hy
    go_enter Tryz.func111, Tryz.ntmps111
    go_wp2_with fail
    refine wp_region_text ⟨[], [], 17⟩ (fun w' => ∃ x : X1, w' = f x) (by kernel_rfl) (by kernel_rfl) HF.out ?_
    refine wpC_seg false (HF.out) 17 0 _ _ (by rfl) (by rfl) ?_
    simp only [List.take_succ_cons, List.take_zero, List.drop_succ_cons, List.drop_zero, Bool.false_eq_true, if_false, Nat.zero_add, Nat.reduceAdd]
    repeat (go_big_quiet_step (fail))
    refine wpQuiet_nil ?_
    refine wpC_nil ?_
    clear hf1 hf2 hf3 hX1 HF
    go_wp2_with fail
    go_ret3
    exact ⟨rfl, HR.out⟩
end Go.Proofs.YtlecnlnpgghmbaaGreatDoor

/- pack.read, of whole numbers, and of what is none. -/
namespace Go.Proofs.YtlecnlnpgghmbaaGreatDoor
set_option linter.unusedVariables false
set_option linter.unusedSimpArgs false
open Go.RowKit
theorem sign8 (n : Nat) (h : n < 256) : IntKind.i8.wrap (n : Int) = signN 1 n := by
  have h1 : IntKind.i8.wrap (n : Int) = ((n : Int) + 128) % 256 - 128 := by simp [IntKind.wrap, IntKind.bits, IntKind.signed, Int.bmod]; omega
  rw [h1]; simp only [signN, Nat.reduceMul, Nat.reduceSub, Nat.reducePow]; split <;> omega
theorem sign16 (n : Nat) (h : n < 65536) : IntKind.i16.wrap (n : Int) = signN 2 n := by
  have h1 : IntKind.i16.wrap (n : Int) = ((n : Int) + 32768) % 65536 - 32768 := by simp [IntKind.wrap, IntKind.bits, IntKind.signed, Int.bmod]; omega
  rw [h1]; simp only [signN, Nat.reduceMul, Nat.reduceSub, Nat.reducePow]; split <;> omega
theorem sign32 (n : Nat) (h : n < 4294967296) : wrap32 (n : Int) = signN 4 n := by
  unfold wrap32; simp only [signN, Nat.reduceMul, Nat.reduceSub, Nat.reducePow]; split <;> omega
theorem sign64 (n : Nat) (h : n < 18446744073709551616) : wrap64 (n : Int) = signN 8 n := by
  unfold wrap64; simp only [signN, Nat.reduceMul, Nat.reduceSub, Nat.reducePow]; split <;> omega
theorem signN_range {w n : Nat} (hw : w = 1 ∨ w = 2 ∨ w = 4 ∨ w = 8) (h : n < 256 ^ w) : -9223372036854775808 ≤ signN w n ∧ signN w n ≤ 9223372036854775807 := by
  rcases hw with rfl | rfl | rfl | rfl <;> simp only [signN, Nat.reduceMul, Nat.reduceSub, Nat.reducePow] at h ⊢ <;> split <;> omega
set_option maxHeartbeats 1600000 in
set_option maxRecDepth 100000 in
theorem read_none (b o m cap c : Nat) {w : World} (hc : 128 ≤ c ∧ c < 256) (hl3 : c = 128 → m < 3) (hno : c < 240 ∨ m < c - 240 ∨ (c ≠ 241 ∧ c ≠ 242 ∧ c ≠ 244 ∧ c ≠ 248)) (hm : m + 1 ≤ cap) (hcap1 : ¬ cap = 1) (hmx : m ≤ 4000000000) (h0 : w.cell? ⟨b, o, none⟩ = some (.int .u8 c)) :
    Calls Tryz.prog 111 #[.slice (some ⟨b, o, none⟩) (m + 1) cap] w fun e w' => e = .returned (.tuple #[.string ByteArray.empty, .int .i64 0, .bool false]) ∧ Below w.heap.size w w' := by
  obtain ⟨k, hk⟩ : ∃ k, c % 16 = k := ⟨_, rfl⟩
  obtain ⟨y, hy⟩ : ∃ y, c / 16 * 16 = y := ⟨_, rfl⟩
  have hand15 : bits .and .u8 (c : Int) 15 = (k : Int) := by
    rw [show (15 : Int) = ((15 : Nat) : Int) from rfl, u8_and_nat c 15 (by omega) (by omega), nat_mask4, hk]
  have hand240 : bits .and .u8 (c : Int) 240 = (y : Int) := by
    have h16 : ∀ c : Fin 256, bits .and .u8 ((c.val : Nat) : Int) 240 = ((c.val / 16 * 16 : Nat) : Int) := by decide +kernel
    rw [h16 ⟨c, hc.2⟩, hy]
  have hd1 : decide ((c : Int) < 128) = false := by simp; omega
  by_cases h128 : c = 128
  · have := hl3 h128
    subst h128
    obtain rfl : k = 0 := by omega
    obtain rfl : y = 128 := by omega
    have hd3 : decide ((3 : Int) ≤ m) = false := by simp; omega
    go_enter Tryz.func111, Tryz.ntmps111
    go_wp2_with fail
    go_ret3
    exact ⟨rfl, Below.refl _ _⟩
  · have hb128 : ((c : Int) == 128) = false := by simp; omega
    by_cases h240 : c < 240
    · have hn240 : ((y : Int) != 240) = true := by simp only [bne_iff_ne, ne_eq]; omega
      go_enter Tryz.func111, Tryz.ntmps111
      go_wp2_with fail
      go_ret3
      exact ⟨rfl, Below.refl _ _⟩
    · obtain rfl : y = 240 := by omega
      by_cases hmk : m < k
      · have hd4 : decide (m < k) = true := by simp; omega
        go_enter Tryz.func111, Tryz.ntmps111
        go_wp2_with fail
        go_ret3
        exact ⟨rfl, Below.refl _ _⟩
      · have hd4 : decide (m < k) = false := by simp; omega
        have e1 : ((k : Int) == 1) = false := by simp only [beq_eq_false_iff_ne, ne_eq]; omega
        have e2 : ((k : Int) == 2) = false := by simp only [beq_eq_false_iff_ne, ne_eq]; omega
        have e4 : ((k : Int) == 4) = false := by simp only [beq_eq_false_iff_ne, ne_eq]; omega
        have e8 : ((k : Int) == 8) = false := by simp only [beq_eq_false_iff_ne, ne_eq]; omega
        go_enter Tryz.func111, Tryz.ntmps111
        go_wp2_with fail
        go_ret3
        exact ⟨rfl, Below.refl _ _⟩
set_option maxHeartbeats 1600000 in
set_option maxRecDepth 100000 in
theorem read_int (b o m cap k : Nat) (xs : List UInt8) {w : World} (hl : Laid w) (hk : k = 1 ∨ k = 2 ∨ k = 4 ∨ k = 8) (hxs : xs.length = k) (hkm : k ≤ m) (hm : m + 1 ≤ cap) (hcap1 : ¬ cap = 1) (hmx : m ≤ 4000000000) (h0 : w.cell? ⟨b, o, none⟩ = some (.int .u8 ((240 + k : Nat) : Int)))
    (hcell : ∀ i (h : i < xs.length), w.cell? ⟨b, o + 1 + i, none⟩ = some (.int .u8 xs[i].toNat)) :
    Calls Tryz.prog 111 #[.slice (some ⟨b, o, none⟩) (m + 1) cap] w fun e w' => e = .returned (.tuple #[.string (intT (signN k (lowN xs))), .int .i64 ((1 + k : Nat) : Int), .bool true]) ∧ Below w.heap.size w w' := by
  have hlt := lowN_lt xs
  rw [hxs] at hlt
  have hsr := signN_range hk hlt
  have HWh := Lib.hid (whole_any (signN k (lowN xs)) hsr k (by omega) hl)
  have HLow := Lib.hid (low_any b (o + 1) k (cap - 1) xs w hxs (by omega) hcell)
  have hce : ∀ (w : World) (args : Array Value), (callFunc 120 args).run Tryz.prog w = .ok (.enter 120 args) w := fun _ _ => rfl
  have hd4 : decide (m < k) = false := by simp; omega
  rcases hk with rfl | rfl | rfl | rfl
  · obtain ⟨x, rfl⟩ : ∃ x, xs = [x] := by
      match xs, hxs with
      | [x], _ => exact ⟨x, rfl⟩
    have g0 := hcell 0 (by simp)
    simp only [List.getElem_cons_zero, Nat.add_zero] at g0
    have hx := x.toNat_lt
    have hs := sign8 x.toNat hx
    have e1 : lowN [x] = x.toNat := by simp [lowN]
    rw [e1] at HWh hsr ⊢
    generalize signN 1 x.toNat = v at *
    have a1 : bits .and .u8 241 15 = 1 := by decide
    have a2 : bits .and .u8 241 240 = 240 := by decide
    clear hl hcell HLow hlt e1
    go_enter Tryz.func111, Tryz.ntmps111
    go_wp2_with fail
    refine HWh.out.mono ?_
    rintro e w1 ⟨rfl, b1⟩
    have B1 := Lib.hid b1
    clear b1 HWh
    go_wp2_with fail
    go_ret3
    exact ⟨rfl, B1.out⟩
  · have hs := sign16 (lowN xs) hlt
    have hnn : lowN xs < 65536 := hlt
    generalize lowN xs = x at *
    generalize signN 2 x = v at *
    have a1 : bits .and .u8 242 15 = 2 := by decide
    have a2 : bits .and .u8 242 240 = 240 := by decide
    clear hl hcell hlt
    go_enter Tryz.func111, Tryz.ntmps111
    go_wp2_with fail
    refine HLow.out.mono ?_
    rintro e w1 ⟨rfl, rfl⟩
    go_wp2_with fail
    refine HWh.out.mono ?_
    rintro e w1 ⟨rfl, b1⟩
    have B1 := Lib.hid b1
    clear b1 HWh
    go_wp2_with fail
    go_ret3
    exact ⟨rfl, B1.out⟩
  · have hs := sign32 (lowN xs) hlt
    have hnn : lowN xs < 4294967296 := hlt
    generalize lowN xs = x at *
    generalize signN 4 x = v at *
    have a1 : bits .and .u8 244 15 = 4 := by decide
    have a2 : bits .and .u8 244 240 = 240 := by decide
    clear hl hcell hlt
    go_enter Tryz.func111, Tryz.ntmps111
    go_wp2_with fail
    refine HLow.out.mono ?_
    rintro e w1 ⟨rfl, rfl⟩
    go_wp2_with fail
    refine HWh.out.mono ?_
    rintro e w1 ⟨rfl, b1⟩
    have B1 := Lib.hid b1
    clear b1 HWh
    go_wp2_with fail
    go_ret3
    exact ⟨rfl, B1.out⟩
  · have hs := sign64 (lowN xs) hlt
    have hnn : lowN xs < 18446744073709551616 := hlt
    generalize lowN xs = x at *
    generalize signN 8 x = v at *
    have a1 : bits .and .u8 248 15 = 8 := by decide
    have a2 : bits .and .u8 248 240 = 240 := by decide
    clear hl hcell hlt
    go_enter Tryz.func111, Tryz.ntmps111
    go_wp2_with fail
    refine HLow.out.mono ?_
    rintro e w1 ⟨rfl, rfl⟩
    go_wp2_with fail
    refine HWh.out.mono ?_
    rintro e w1 ⟨rfl, b1⟩
    have B1 := Lib.hid b1
    clear b1 HWh
    go_wp2_with fail
    go_ret3
    exact ⟨rfl, B1.out⟩
/-- **pack.read, of any bytes.** -/
theorem read_any (b o n cap : Nat) (bs : List UInt8) {w : World} (hl : Laid w) (hn : bs.length = n) (hc : n < cap ∨ (n ≤ cap ∧ 2 ≤ n ∧ ((bs.getD 0 0).toNat = 128 → 5 ≤ n))) (hm : n ≤ 4000000000)
    (hcell : ∀ i (h : i < bs.length), w.cell? ⟨b, o + i, none⟩ = some (.int .u8 bs[i].toNat)) :
    Calls Tryz.prog 111 #[.slice (some ⟨b, o, none⟩) n cap] w fun e w' => e = .returned (readV bs) ∧ Below w.heap.size w w' := by
  cases bs with
  | nil =>
    obtain rfl : n = 0 := by simpa using hn.symm
    exact read_nil b o cap
  | cons c0 body =>
    obtain ⟨m, rfl⟩ : ∃ m, n = m + 1 := ⟨body.length, by simpa using hn.symm⟩
    have hbl : body.length = m := by simpa using hn
    have h0 := hcell 0 (by simp)
    simp only [List.getElem_cons_zero, Nat.add_zero] at h0
    have hb : ∀ i (h : i < body.length), w.cell? ⟨b, o + 1 + i, none⟩ = some (.int .u8 body[i].toNat) := fun i h => by
      have := hcell (i + 1) (by simp; omega)
      rw [show o + 1 + i = o + (i + 1) by omega]
      exact this
    have hlt := c0.toNat_lt
    have hcl : m + 1 ≤ cap := by omega
    have hc1 : ¬ cap = 1 := by omega
    have htk : ∀ k, k ≤ m → (body.take k).length = k ∧ ∀ i (h : i < (body.take k).length), w.cell? ⟨b, o + 1 + i, none⟩ = some (.int .u8 (body.take k)[i].toNat) := fun k hk => by
      refine ⟨by simp; omega, fun i h => ?_⟩
      simp only [List.length_take] at h
      rw [hb i (by omega)]; simp
    by_cases h128 : c0.toNat < 128
    · by_cases hcm : c0.toNat ≤ m
      · have := read_short b o m cap c0.toNat (body.take c0.toNat) (htk _ hcm).1 h128 hcl hc1 (by omega) h0 (fun _ => (htk _ hcm).2)
        rw [if_pos hcm] at this
        have e : readV (c0 :: body) = .tuple #[.string (strOf (body.take c0.toNat)), .int .i64 ((1 + c0.toNat : Nat) : Int), .bool true] := by
          unfold readV; rw [readL, if_pos h128, if_neg (by omega)]
        rw [e]; exact this
      · have := read_short b o m cap c0.toNat (List.replicate c0.toNat 0) (by simp) h128 hcl hc1 (by omega) h0 (fun h => absurd h hcm)
        rw [if_neg hcm] at this
        have e : readV (c0 :: body) = .tuple #[.string ByteArray.empty, .int .i64 0, .bool false] := by
          unfold readV; rw [readL, if_pos h128, if_pos (by omega)]
        rw [e]; exact this
    · by_cases hL : c0.toNat = 128 ∧ 3 ≤ m
      · obtain ⟨h8, h3⟩ := hL
        have hc2 : ¬ cap - 1 = 3 := by simp only [List.getD_cons_zero] at hc; omega
        obtain ⟨x0, x1, x2, r, rfl⟩ : ∃ x0 x1 x2 r, body = x0 :: x1 :: x2 :: r := by
          match body, hbl with
          | [], h => simp at h; omega
          | [_], h => simp at h; omega
          | [_, _], h => simp at h; omega
          | x0 :: x1 :: x2 :: r, _ => exact ⟨x0, x1, x2, r, rfl⟩
        have g0 := hb 0 (by simp)
        have g1 := hb 1 (by simp)
        have g2 := hb 2 (by simp)
        simp only [List.getElem_cons_zero, List.getElem_cons_succ, Nat.add_zero] at g0 g1 g2
        have b0 := x0.toNat_lt
        have b1 := x1.toNat_lt
        have b2 := x2.toNat_lt
        have eN : lowN ((x0 :: x1 :: x2 :: r).take 3) = x0.toNat + 256 * x1.toNat + 65536 * x2.toNat := by simp [lowN]; omega
        have hrl : r.length = m - 3 := by simp at hbl; omega
        rw [h8] at h0
        by_cases hcm : x0.toNat + 256 * x1.toNat + 65536 * x2.toNat ≤ m - 3
        · have := read_long b o m cap x0.toNat x1.toNat x2.toNat _ (r.take (x0.toNat + 256 * x1.toNat + 65536 * x2.toNat)) rfl (by simp; omega) ⟨b0, b1, b2⟩ h3 hcl hc1 hc2 (by omega) h0 g0 g1 g2 (fun _ i h => by
            simp only [List.length_take] at h
            have := hb (3 + i) (by simp; omega)
            rw [show o + 1 + 3 + i = o + 1 + (3 + i) by omega, this]
            simp [Nat.add_comm 3 i])
          rw [if_pos hcm] at this
          have e : readV (c0 :: x0 :: x1 :: x2 :: r) = .tuple #[.string (strOf (r.take (x0.toNat + 256 * x1.toNat + 65536 * x2.toNat))), .int .i64 ((4 + (x0.toNat + 256 * x1.toNat + 65536 * x2.toNat) : Nat) : Int), .bool true] := by
            unfold readV; rw [readL, if_neg h128, if_pos ⟨h8, by simp⟩, eN, if_neg (by simp; omega)]; rfl
          rw [e]; exact this
        · have := read_long b o m cap x0.toNat x1.toNat x2.toNat _ (List.replicate (x0.toNat + 256 * x1.toNat + 65536 * x2.toNat) 0) rfl (by simp) ⟨b0, b1, b2⟩ h3 hcl hc1 hc2 (by omega) h0 g0 g1 g2 (fun h => absurd h hcm)
          rw [if_neg hcm] at this
          have e : readV (c0 :: x0 :: x1 :: x2 :: r) = .tuple #[.string ByteArray.empty, .int .i64 0, .bool false] := by
            unfold readV; rw [readL, if_neg h128, if_pos ⟨h8, by simp⟩, eN, if_pos (by simp; omega)]
          rw [e]; exact this
      · by_cases hI : (c0.toNat = 241 ∨ c0.toNat = 242 ∨ c0.toNat = 244 ∨ c0.toNat = 248) ∧ c0.toNat - 240 ≤ m
        · obtain ⟨k, hk⟩ : ∃ k, c0.toNat = 240 + k := ⟨c0.toNat - 240, by omega⟩
          have hk' : c0.toNat - 240 = k := by omega
          rw [hk'] at hI
          rw [hk] at h0
          have := read_int b o m cap k (body.take k) hl (by omega) (htk k hI.2).1 hI.2 hcl hc1 (by omega) h0 (htk k hI.2).2
          have e : readV (c0 :: body) = .tuple #[.string (intT (signN k (lowN (body.take k)))), .int .i64 ((1 + k : Nat) : Int), .bool true] := by
            unfold readV; rw [readL, if_neg h128, if_neg (by rw [hbl]; exact hL), if_pos ⟨hI.1, by omega⟩, hk']
          rw [e]; exact this
        · have := read_none b o m cap c0.toNat ⟨by omega, hlt⟩ (fun h => by omega) (by omega) hcl hc1 (by omega) h0
          have e : readV (c0 :: body) = .tuple #[.string ByteArray.empty, .int .i64 0, .bool false] := by
            unfold readV; rw [readL, if_neg h128, if_neg (by rw [hbl]; exact hL), if_neg (by rw [hbl]; exact hI)]
          rw [e]; exact this
end Go.Proofs.YtlecnlnpgghmbaaGreatDoor

/- A pack in memory; gone, Len, Size, Bytes. -/
namespace Go.Proofs.YtlecnlnpgghmbaaGreatDoor
set_option linter.unusedVariables false
set_option linter.unusedSimpArgs false
open Go.RowKit
@[go_sem] theorem eql_bytes_nilP (w : World) (a : Option Addr) (n c : Nat) : (binOp .eql 90 (.slice a n c) (.slice none 0 0)).run Tryz.prog w = .ok (.bool a.isNone) w :=
  Lib.run_eql_slice_nil w _ _ a n c 0 0 Tryz.underlying90
/-- What texts may be. -/
structure OKL (L : List ByteArray) : Prop where
  size : sizeP L ≤ 1073741824
  many : L.length ≤ 1048576
  each : ∀ s ∈ L, s.size ≤ 65536
/-- The cells of a pack: the struct in block p, the piece in block g. -/
structure PackRow (w : World) (p g cap : Nat) (cur : Array Value) (L : List ByteArray) : Prop where
  head : w.heap[p]? = some (.cells #[.slice (some ⟨g, 0, none⟩) (sizeP L) cap] 151 (0, 0))
  row : RowAt w g 5 cur
  size : cur.size = cap
  le : sizeP L ≤ cap
  capm : cap ≤ maxLen
  bytes : cur.toList.take (sizeP L) = (packL L).map u8v
  ok : OKL L
section
variable {w : World} {p g cap : Nat} {cur : Array Value} {L : List ByteArray}
theorem PackRow.cell0 (h : PackRow w p g cap cur L) : w.cell? ⟨p, 0, none⟩ = some (.slice (some ⟨g, 0, none⟩) (sizeP L) cap) := cell_in h.head rfl
theorem PackRow.ne (h : PackRow w p g cap cur L) : g ≠ p := by
  rintro rfl
  obtain ⟨fz, _, h2⟩ := h.row
  rw [h.head] at h2; cases h2
theorem PackRow.chg (h : PackRow w p g cap cur L) {S : Nat → Prop} {w' : World} (hc : Chg S w w') (h1 : ¬ S p) (h2 : ¬ S g) : PackRow w' p g cap cur L :=
  { h with head := hc.keep h.head h1, row := h.row.keep hc h2 }
theorem PackRow.cell (h : PackRow w p g cap cur L) {i : Nat} (hi : i < (packL L).length) : w.cell? ⟨g, i, none⟩ = some (.int .u8 (packL L)[i].toNat) := by
  refine h.row.cell ?_
  have hi' : i < sizeP L := by rw [packL_length] at hi; exact hi
  have e := congrArg (fun l => l[i]?) h.bytes
  simp only [List.getElem?_take_of_lt hi', Array.getElem?_toList, List.getElem?_map, List.getElem?_eq_getElem hi, Option.map_some] at e
  exact e
theorem PackRow.cells (h : PackRow w p g cap cur L) (o : Nat) {xs : List UInt8} (hx : ((packL L).drop o).take xs.length = xs) : ∀ i (hi : i < xs.length), w.cell? ⟨g, o + i, none⟩ = some (.int .u8 xs[i].toNat) := fun i hi => by
  have e := congrArg (fun l => l[i]?) hx
  simp only [List.getElem?_take_of_lt hi, List.getElem?_drop, List.getElem?_eq_getElem hi] at e
  obtain ⟨h1, h2⟩ := List.getElem?_eq_some_iff.1 e
  rw [h.cell h1, h2]
end
theorem sizeP_pos (L : List ByteArray) : 9 ≤ sizeP L := by unfold sizeP; omega
set_option maxHeartbeats 800000 in
set_option maxRecDepth 100000 in
theorem gone_row {w : World} {p g n cap : Nat} (h : w.cell? ⟨p, 0, none⟩ = some (.slice (some ⟨g, 0, none⟩) n cap)) :
    Calls Tryz.prog 102 #[.pointer (some ⟨p, 0, none⟩)] w fun e w' => e = .returned (.bool false) ∧ w = w' := by
  go_enter Tryz.func102, Tryz.ntmps102
  go_wp2_with fail
  go_ret
  exact ⟨rfl, rfl⟩
set_option maxHeartbeats 800000 in
set_option maxRecDepth 100000 in
/-- Len, whatever stands behind the head. -/
theorem plen_raw {w : World} {p g n cap : Nat} (xs : List UInt8) (hx : xs.length = 4) (h : w.cell? ⟨p, 0, none⟩ = some (.slice (some ⟨g, 0, none⟩) n cap)) (hn : 9 ≤ n) (hc : n ≤ cap) (hm : cap ≤ maxLen)
    (hcell : ∀ i (hi : i < xs.length), w.cell? ⟨g, 4 + i, none⟩ = some (.int .u8 xs[i].toNat)) :
    Calls Tryz.prog 96 #[.pointer (some ⟨p, 0, none⟩)] w fun e w' => e = .returned (.int .i64 (lowN xs : Nat)) ∧ w = w' := by
  have HG := Lib.hid (gone_row h)
  have HL := Lib.hid (low_any g 4 4 (cap - 4) xs w hx (by omega) hcell)
  have hlt : lowN xs < 4294967296 := by have := lowN_lt xs; rw [hx] at this; exact this
  unfold maxLen at hm
  clear hcell
  go_enter Tryz.func96, Tryz.ntmps96
  go_wp2_with fail
  refine HG.out.mono ?_
  rintro e w' ⟨rfl, rfl⟩
  go_wp2_with fail
  refine HL.out.mono ?_
  rintro e w' ⟨rfl, rfl⟩
  go_wp2_with fail
  go_ret
  exact ⟨rfl, rfl⟩
theorem plen_row {w : World} {p g cap : Nat} {cur : Array Value} {L : List ByteArray} (h : PackRow w p g cap cur L) :
    Calls Tryz.prog 96 #[.pointer (some ⟨p, 0, none⟩)] w fun e w' => e = .returned (.int .i64 L.length) ∧ w = w' := by
  have := plen_raw (leN 4 L.length) (by simp) h.cell0 (sizeP_pos L) h.le h.capm (h.cells 4 (by rw [leN_length]; exact packL_many L))
  rw [lowN_leN, Nat.mod_eq_of_lt (by have := h.ok.many; omega)] at this
  exact this
end Go.Proofs.YtlecnlnpgghmbaaGreatDoor

/- pack: next, ahead, seek. -/
namespace Go.Proofs.YtlecnlnpgghmbaaGreatDoor
set_option linter.unusedVariables false
set_option linter.unusedSimpArgs false
open Go.RowKit
theorem OKL.small {L : List ByteArray} (h : OKL L) {i : Nat} (hi : i < L.length) : L[i].size ≤ 65536 := h.each _ (List.getElem_mem hi)
theorem drop_length (L : List ByteArray) (i : Nat) : ((packL L).drop (offL L i)).length = sizeP L - offL L i := by rw [List.length_drop, packL_length]
/-- What an entry's first byte may be, at a piece's end. -/
theorem first_128 {L : List ByteArray} {i : Nat} (h : OKL L) (hi : i < L.length) (h128 : (((packL L).drop (offL L i)).getD 0 0).toNat = 128) : 5 ≤ sizeP L - offL L i := by
  have h1 := offL_succ hi
  have h2 := (offL_lt L (i + 1)).2
  have hs := h.small hi
  have he := entL_length L[i] (by omega)
  by_cases hl : 4 ≤ (entL L[i]).length
  · omega
  · exfalso
    rw [packL_drop, List.drop_eq_getElem_cons hi, bodyL_cons, entL, List.append_assoc, List.append_assoc] at h128
    cases hn : intS L[i] with
    | some n =>
      rw [headL_int hn] at h128
      have hw := wideI_cases n
      simp only [List.cons_append, List.getD_cons_zero, UInt8.toNat_ofNat'] at h128
      omega
    | none =>
      by_cases hsh : L[i].size < 128
      · rw [headL_short hn hsh] at h128
        simp only [List.cons_append, List.getD_cons_zero, UInt8.toNat_ofNat'] at h128
        omega
      · rw [entL, headL_long hn (by omega)] at hl
        simp at hl <;> omega
theorem read_row {w : World} {p g cap : Nat} {cur : Array Value} {L : List ByteArray} (h : PackRow w p g cap cur L) (hl : Laid w) {i : Nat} (hi : i < L.length) :
    Calls Tryz.prog 111 #[.slice (some ⟨g, offL L i, none⟩) (sizeP L - offL L i) (cap - offL L i)] w fun e w' => e = .returned (.tuple #[.string L[i], .int .i64 (headL L[i]).length, .bool true]) ∧ Below w.heap.size w w' := by
  have h1 := offL_succ hi
  have h2 := (offL_lt L (i + 1)).2
  have hs := h.ok.small hi
  have he := entL_length L[i] (by omega)
  have hle := h.le
  have hsz := h.ok.size
  have e : readV ((packL L).drop (offL L i)) = .tuple #[.string L[i], .int .i64 (headL L[i]).length, .bool true] := by
    unfold readV; rw [read_pack hi (by omega)]
  rw [← e]
  refine read_any g (offL L i) _ _ _ hl (drop_length L i) (.inr ⟨by omega, by omega, fun h8 => first_128 h.ok hi h8⟩) (by omega) ?_
  exact h.cells (offL L i) (by rw [List.take_length])
set_option maxHeartbeats 800000 in
set_option maxRecDepth 100000 in
theorem next_row {w : World} {p g cap : Nat} {cur : Array Value} {L : List ByteArray} (h : PackRow w p g cap cur L) (hl : Laid w) {i : Nat} (hi : i < L.length) :
    Calls Tryz.prog 112 #[.pointer (some ⟨p, 0, none⟩), .int .i64 (offL L i)] w fun e w' => e = .returned (.int .i64 (offL L (i + 1))) ∧ Below w.heap.size w w' := by
  have c0 := h.cell0
  have HR := Lib.hid (read_row h hl hi)
  have h1 := offL_succ hi
  have h2 := (offL_lt L (i + 1)).2
  have hs := h.ok.small hi
  have he := entL_length L[i] (by omega)
  have hhd := headL_length L[i]
  have hle := h.le
  have hsz := h.ok.size
  have hcm := h.capm
  unfold maxLen at hcm
  have hbk := backL_length (headL L[i]).length (by omega)
  have hent : (entL L[i]).length = (headL L[i]).length + (backL (headL L[i]).length).length := by unfold entL; rw [List.length_append]
  obtain ⟨x, hx⟩ : ∃ x, L[i] = x := ⟨_, rfl⟩
  rw [hx] at h1 hs he hhd hbk hent HR
  obtain ⟨nh, hnh⟩ : ∃ nh, (headL x).length = nh := ⟨_, rfl⟩
  rw [hnh] at hhd hbk hent HR
  have HB := Lib.hid (fun w => back_any nh (by omega) w)
  obtain ⟨nb, hnb⟩ : ∃ nb, (backL nh).length = nb := ⟨_, rfl⟩
  rw [hnb] at hbk hent
  have HBn := Lib.hid hnb
  obtain ⟨k, hk⟩ : ∃ k, offL L i = k := ⟨_, rfl⟩
  obtain ⟨k', hk'⟩ : ∃ k', offL L (i + 1) = k' := ⟨_, rfl⟩
  obtain ⟨sz, hszz⟩ : ∃ sz, sizeP L = sz := ⟨_, rfl⟩
  rw [hk, hk'] at h1
  rw [hk', hszz] at h2
  rw [hszz] at hle hsz c0
  rw [hk, hszz] at HR
  rw [hk, hk']
  have hkc : ¬ cap = k := by omega
  have hkle : k ≤ sz := by omega
  have hk'' : k' = k + nh + nb := by omega
  clear h hl hx hnh hk hk' hszz h1 hent hnb
  subst hk''
  go_enter Tryz.func112, Tryz.ntmps112
  go_wp2_with fail
  refine HR.out.mono ?_
  rintro e w1 ⟨rfl, b1⟩
  have B1 := Lib.hid b1
  clear b1 HR
  go_wp2_with fail
  refine (HB.out _).mono ?_
  rintro e w2 ⟨v2, rfl, s2, b2⟩
  rw [HBn.out] at s2
  obtain ⟨a2, c2, rfl, _⟩ := s2.arg
  have B2 := Lib.hid (B1.out.trans (b2.mono B1.out.size))
  clear s2 b2 HB
  go_wp2_with fail
  go_ret
  exact ⟨by congr 2, B2.out⟩
theorem ahead_byte {L : List ByteArray} (h : OKL L) {i : Nat} (hi : i < L.length) : ∃ nh k, nh = (headL L[i]).length ∧ k ≤ 2 ∧ nh < 128 ^ (k + 1) ∧ (k = 0 ∨ 128 ^ k ≤ nh) ∧ offL L (i + 1) = offL L i + nh + (k + 1) ∧
    ∀ j, j ≤ k → ∃ hlt : offL L (i + 1) - 1 - j < (packL L).length, (packL L)[offL L (i + 1) - 1 - j].toNat = nh / 128 ^ j % 128 + if j = k then 0 else 128 := by
  have h1 := offL_succ hi
  have h2 := (offL_lt L (i + 1)).2
  have hs := h.small hi
  have hhd := headL_length L[i]
  obtain ⟨k, k5, hk1, hk2⟩ := groups (headL L[i]).length (by omega)
  have hk3 : k ≤ 2 := by
    rcases Nat.lt_or_ge k 3 with h | h
    · omega
    · have := Nat.pow_le_pow_right (n := 128) (by omega) h
      omega
  have hbl : (backL (headL L[i]).length).length = k + 1 := by rw [backL_eq hk1 hk2 k5]; simp
  have hent : (entL L[i]).length = (headL L[i]).length + (k + 1) := by unfold entL; rw [List.length_append, hbl]
  refine ⟨_, k, rfl, hk3, hk1, hk2, by omega, fun j hj => ?_⟩
  have hlt : offL L (i + 1) - 1 - j < (packL L).length := by rw [packL_length]; omega
  refine ⟨hlt, ?_⟩
  have hd : ((packL L).drop (offL L i))[(headL L[i]).length + (k - j)]? = some (UInt8.ofNat ((headL L[i]).length / 128 ^ j % 128 + if j = k then 0 else 128)) := by
    rw [packL_drop, List.drop_eq_getElem_cons hi, bodyL_cons, entL, List.append_assoc, List.append_assoc, List.getElem?_append_right (by omega), Nat.add_sub_cancel_left, List.getElem?_append_left (by omega)]
    exact back_get hk1 hk2 k5 hj
  rw [List.getElem?_drop, show offL L i + ((headL L[i]).length + (k - j)) = offL L (i + 1) - 1 - j by omega, List.getElem?_eq_getElem hlt] at hd
  have e := Option.some.inj hd
  rw [e, UInt8.toNat_ofNat']
  have := Nat.mod_lt ((headL L[i]).length / 128 ^ j) (show 0 < 128 by omega)
  split <;> omega
set_option maxHeartbeats 1600000 in
set_option maxRecDepth 100000 in
theorem ahead_row {w : World} {p g cap : Nat} {cur : Array Value} {L : List ByteArray} (h : PackRow w p g cap cur L) {i : Nat} (hi : i < L.length) :
    Calls Tryz.prog 117 #[.pointer (some ⟨p, 0, none⟩), .int .i64 (offL L (i + 1))] w fun e w' => e = .returned (.int .i64 (offL L i)) ∧ Below w.heap.size w w' := by
  obtain ⟨nh, k, hnh, hk2, hk3, hk4, hoff, hby⟩ := ahead_byte h.ok hi
  have c0 := h.cell0
  have h2 := (offL_lt L (i + 1)).2
  have hle := h.le
  have hsz := h.ok.size
  have hcm := h.capm
  unfold maxLen at hcm
  have HBy := Lib.hid (show ∀ j, j ≤ k → w.cell? ⟨g, offL L (i + 1) - 1 - j, none⟩ = some (.int .u8 ((nh / 128 ^ j % 128 + if j = k then 0 else 128 : Nat) : Int)) from fun j hj => by
    obtain ⟨h1, h2⟩ := hby j hj
    rw [h.cell h1, h2])
  obtain ⟨a, ha⟩ : ∃ a, offL L (i + 1) = a := ⟨_, rfl⟩
  obtain ⟨b, hb⟩ : ∃ b, offL L i = b := ⟨_, rfl⟩
  obtain ⟨sz, hszz⟩ : ∃ sz, sizeP L = sz := ⟨_, rfl⟩
  rw [ha, hb] at hoff
  rw [ha] at HBy
  rw [ha, hszz] at h2
  rw [hszz] at c0 hle hsz
  rw [ha, hb]
  clear h hnh hby ha hb hszz
  have HO := Lib.hid hoff
  have hka : k + 1 ≤ a := by omega
  clear hoff
  go_enter Tryz.func117, Tryz.ntmps117
  go_wp2_with fail
  go_loopw [1, 5, 6] (fun i m s wr => ∃ j : Nat, j ≤ k ∧ i = .int .i64 ((a - 1 - j : Nat) : Int) ∧ m = .int .i64 ((nh % 128 ^ j : Nat) : Int) ∧ s = .int .i64 ((7 * j : Nat) : Int) ∧ ∃ d, wr = w.drewN d) (fun i _ _ _ => (intOf i).toNat)
  case atStart => exact ⟨0, by omega, by go_num, by simp [Nat.mod_one], rfl, 0, rfl⟩
  case round =>
    obtain ⟨j, hj, rfl, rfl, rfl, d, rfl⟩ := hrel
    have hcell := HBy.out j hj
    have hdl := Nat.mod_lt (nh / 128 ^ j) (show 0 < 128 by omega)
    obtain ⟨c, hc⟩ : ∃ c, nh / 128 ^ j % 128 = c := ⟨_, rfl⟩
    rw [hc] at hcell hdl
    obtain ⟨y, hy⟩ : ∃ y, (c + if j = k then 0 else 128) = y := ⟨_, rfl⟩
    rw [hy] at hcell
    have hand : bits .and .u8 (y : Int) 127 = (c : Int) := by
      rw [show (127 : Int) = ((127 : Nat) : Int) from rfl, u8_and_nat y 127 (by split at hy <;> omega) (by omega), nat_mask7]
      congr 1; split at hy <;> omega
    obtain ⟨u, hu⟩ : ∃ u, nh % 128 ^ j = u := ⟨_, rfl⟩
    rw [hu]
    obtain ⟨x, hx⟩ : ∃ x, a - 1 - j = x := ⟨_, rfl⟩
    rw [hx] at hcell ⊢
    have hxs : x < sz := by omega
    have hj2 : j = 0 ∨ j = 1 ∨ j = 2 := by omega
    obtain ⟨z, hz⟩ : ∃ z, nh % 128 ^ (j + 1) = z := ⟨_, rfl⟩
    have hzu : z = u + 128 ^ j * c := by rw [← hz, Nat.pow_succ, Nat.mod_mul, hu, hc]
    have hul : u < 128 ^ j := by rw [← hu]; exact Nat.mod_lt _ (Nat.pow_pos (by omega))
    have hor : bits .or .i64 (u : Int) ((c : Int) * ((128 ^ j : Nat) : Int)) = (z : Int) := by
      have hb : c * 128 ^ j < 9223372036854775808 := by
        have : 128 ^ j ≤ 128 ^ 2 := Nat.pow_le_pow_right (by omega) (by omega)
        have := Nat.mul_le_mul (Nat.le_of_lt hdl) this
        omega
      have hub : u < 9223372036854775808 := by
        have : 128 ^ j ≤ 128 ^ 2 := Nat.pow_le_pow_right (by omega) (by omega)
        omega
      have e := i64_or_nat u (c * 128 ^ j) hub hb
      rw [Int.natCast_mul] at e
      rw [e]
      have h := Nat.shiftLeft_add_eq_or_of_lt (i := 7 * j) (b := u) (by rw [Nat.pow_mul]; exact hul) c
      rw [Nat.shiftLeft_eq, Nat.pow_mul] at h
      simp only [Nat.reducePow] at h
      rw [Nat.or_comm, ← h, hzu, Nat.mul_comm (128 ^ j) c, Nat.add_comm]
    have HX := Lib.hid (And.intro hx (And.intro hz hy))
    by_cases hjk : j = k
    · have hlast : (x : Int) - (z : Int) = (b : Int) := by
        have := HO.out
        rw [hjk] at hx hz
        rw [Nat.mod_eq_of_lt hk3] at hz
        omega
      have hzx : z ≤ x := by omega
      have HL := Lib.hid hlast
      have hd : decide ((y : Int) < 128) = true := by rw [if_pos hjk] at hy; simp; omega
      clear hlast hx hz hzu hy hul hc hu hjk
      rcases hj2 with rfl | rfl | rfl
      · rw [show ((7 * 0 : Nat) : Int) = 0 from rfl]
        simp only [Nat.reducePow, Int.cast_ofNat_Int, Int.natCast_one, Int.mul_one] at hor
        go_wp2_with fail
        go_ret
        exact ⟨ret1 (congrArg (Value.int .i64) HL.out), belowN (Below.refl _ _) d⟩
      · rw [show ((7 * 1 : Nat) : Int) = 7 from rfl]
        simp only [Nat.reducePow, Int.cast_ofNat_Int, Int.natCast_one, Int.mul_one] at hor
        go_wp2_with fail
        go_ret
        exact ⟨ret1 (congrArg (Value.int .i64) HL.out), belowN (Below.refl _ _) d⟩
      · rw [show ((7 * 2 : Nat) : Int) = 14 from rfl]
        simp only [Nat.reducePow, Int.cast_ofNat_Int, Int.natCast_one, Int.mul_one] at hor
        go_wp2_with fail
        go_ret
        exact ⟨ret1 (congrArg (Value.int .i64) HL.out), belowN (Below.refl _ _) d⟩
    · have hj1 : j + 1 ≤ k := by omega
      have hd : decide ((y : Int) < 128) = false := by rw [if_neg hjk] at hy; simp; omega
      have HN := Lib.hid (show ((a - 1 - (j + 1) : Nat) : Int) = (x : Int) - 1 by omega)
      have hx1 : 1 ≤ x := by omega
      clear hx hzu hy hul hc hu hjk
      rcases hj2 with rfl | rfl | rfl
      · rw [show ((7 * 0 : Nat) : Int) = 0 from rfl]
        simp only [Nat.reducePow, Int.cast_ofNat_Int, Int.natCast_one, Int.mul_one] at hor
        go_wp2_with fail
        go_roundw
        case rel => exact ⟨1, hj1, by rw [HN.out], by rw [HX.out.2.1], rfl, d, rfl⟩
        case measure => simp [intOf]; omega
      · rw [show ((7 * 1 : Nat) : Int) = 7 from rfl]
        simp only [Nat.reducePow, Int.cast_ofNat_Int, Int.natCast_one, Int.mul_one] at hor
        go_wp2_with fail
        go_roundw
        case rel => exact ⟨2, hj1, by rw [HN.out], by rw [HX.out.2.1], rfl, d, rfl⟩
        case measure => simp [intOf]; omega
      · omega
/-- The walk over so many entries. -/
theorem walk_any (fid : FuncId) (p : Nat) (pos : Nat → Nat) (n : Nat) (hn : n ≤ 1048576) {w : World} (hce : ∀ (w : World) (args : Array Value), (callFunc fid args).run Tryz.prog w = .ok (.enter fid args) w)
    (hstep : ∀ j, j < n → ∀ w', Below w.heap.size w w' → Calls Tryz.prog fid #[.pointer (some ⟨p, 0, none⟩), .int .i64 (pos j)] w' fun e w'' => e = .returned (.int .i64 (pos (j + 1))) ∧ Below w'.heap.size w' w'') :
    Calls Tryz.prog 116 #[.int .i64 (pos 0), .int .i64 n, .func (.func fid) #[.pointer (some ⟨p, 0, none⟩)] #[]] w fun e w' => e = .returned (.int .i64 (pos n)) ∧ Below w.heap.size w w' := by
  have HS := Lib.hid hstep
  clear hstep
  go_enter Tryz.func116, Tryz.ntmps116
  go_wp2_with fail
  go_loopw [0, 8] (fun x i wr => ∃ j : Nat, j ≤ n ∧ i = .int .i64 j ∧ x = .int .i64 (pos j) ∧ Hid (Below w.heap.size w wr)) (fun _ i _ => n - (intOf i).toNat)
  case atStart => exact ⟨0, by omega, rfl, rfl, Lib.hid (Below.refl _ _)⟩
  case round =>
    obtain ⟨j, hj, rfl, rfl, hB⟩ := hrel
    by_cases hlt : j < n
    · have HS1 := Lib.hid (HS.out j hlt wr hB.out)
      go_wp2_with fail
      refine HS1.out.mono ?_
      rintro e w2 ⟨rfl, b2⟩
      have B2 := Lib.hid (hB.out.trans (b2.mono hB.out.size))
      clear b2
      go_wp2_with fail
      go_roundw
      case rel => exact ⟨j + 1, by omega, by go_num, rfl, B2⟩
      case measure => simp [intOf]; omega
    · obtain rfl : j = n := by omega
      go_wp2_with fail
      go_ret
      exact ⟨rfl, hB.out⟩
set_option maxHeartbeats 800000 in
set_option maxRecDepth 100000 in
theorem seek_row {w : World} {p g cap : Nat} {cur : Array Value} {L : List ByteArray} (h : PackRow w p g cap cur L) (hl : Laid w) {i : Nat} (hi : i ≤ L.length) :
    Calls Tryz.prog 107 #[.pointer (some ⟨p, 0, none⟩), .int .i64 i] w fun e w' => e = .returned (.int .i64 (offL L i)) ∧ Below w.heap.size w w' := by
  have c0 := h.cell0
  have HL := Lib.hid (plen_row h)
  have hmany := h.ok.many
  have hle := h.le
  have hsz := h.ok.size
  have hcm := h.capm
  unfold maxLen at hcm
  have hpl := heap_lt h.head
  have hgl := h.row.lt
  have hchg : ∀ w', Below w.heap.size w w' → PackRow w' p g cap cur L := fun w' hb => h.chg (Chg.of_below (fun _ => False) hb) id id
  have hce : ∀ (w : World) (args : Array Value), (callFunc 116 args).run Tryz.prog w = .ok (.enter 116 args) w := fun _ _ => rfl
  have HNx := Lib.hid (walk_any 112 p (offL L) i (by omega) (w := w) (fun _ _ => rfl) (fun j hj w' hb => next_row (hchg w' hb) (hl.below hb) (by omega)))
  have HAh := Lib.hid (walk_any 117 p (fun j => offL L (L.length - j)) (L.length - i) (by omega) (w := w) (fun _ _ => rfl) (fun j hj w' hb => by
    have := ahead_row (hchg w' hb) (i := L.length - j - 1) (by omega)
    rw [show L.length - j - 1 + 1 = L.length - j by omega] at this
    exact this))
  simp only [Nat.sub_zero] at HAh
  rw [show L.length - (L.length - i) = i by omega, offL_all (Nat.le_refl _)] at HAh
  rw [offL_zero] at HNx
  have h9 := sizeP_pos L
  rw [show ((sizeP L - 1 : Nat) : Int) = (sizeP L : Int) - 1 by omega, show ((L.length - i : Nat) : Int) = (L.length : Int) - (i : Int) by omega] at HAh
  generalize sizeP L = sz at *
  generalize offL L i = k at *
  clear h hchg hl
  rcases Bool.eq_false_or_eq_true (decide ((L.length : Int) / 2 < (i : Int))) with hd | hd
  · go_enter Tryz.func107, Tryz.ntmps107
    go_wp2_with fail
    refine HL.out.mono ?_
    rintro e w1 ⟨rfl, rfl⟩
    go_wp2_with fail
    refine HAh.out.mono ?_
    rintro e w1 ⟨rfl, b1⟩
    have B1 := Lib.hid b1
    clear b1
    go_wp2_with fail
    go_ret
    exact ⟨rfl, B1.out⟩
  · go_enter Tryz.func107, Tryz.ntmps107
    go_wp2_with fail
    refine HL.out.mono ?_
    rintro e w1 ⟨rfl, rfl⟩
    go_wp2_with fail
    refine HNx.out.mono ?_
    rintro e w1 ⟨rfl, b1⟩
    have B1 := Lib.hid b1
    clear b1
    go_wp2_with fail
    go_ret
    exact ⟨rfl, B1.out⟩
end Go.Proofs.YtlecnlnpgghmbaaGreatDoor

/- pack: place, Get. -/
namespace Go.Proofs.YtlecnlnpgghmbaaGreatDoor
set_option linter.unusedVariables false
set_option linter.unusedSimpArgs false
open Go.RowKit
def placeN (n : Nat) (at_ : Int) : Int := if at_ < 0 then at_ + n else at_
def placeB (n : Nat) (at_ : Int) : Bool := decide (0 ≤ placeN n at_) && decide (placeN n at_ < n)
set_option maxHeartbeats 800000 in
set_option maxRecDepth 100000 in
theorem place_row {w : World} {p g cap : Nat} {cur : Array Value} {L : List ByteArray} (h : PackRow w p g cap cur L) (a : Int) (ha : -9223372036854775808 ≤ a ∧ a ≤ 9223372036854775807) :
    Calls Tryz.prog 166 #[.pointer (some ⟨p, 0, none⟩), .int .i64 a] w fun e w' => e = .returned (.tuple #[.int .i64 (placeN L.length a), .bool (placeB L.length a)]) ∧ w = w' := by
  have HL := Lib.hid (plen_row h)
  have hmany := h.ok.many
  clear h
  obtain ⟨n, hn⟩ : ∃ n, L.length = n := ⟨_, rfl⟩
  rw [hn] at HL hmany ⊢
  clear hn
  by_cases h0 : a < 0
  · have hd : decide (a < 0) = true := by simp; omega
    have hp : placeN n a = a + n := by unfold placeN; rw [if_pos h0]
    have hb : placeB n a = (decide (0 ≤ a + n) && decide (a + n < n)) := by unfold placeB; rw [hp]
    rw [hp, hb]
    have hin : -9223372036854775808 ≤ a + n ∧ a + n ≤ 9223372036854775807 := by omega
    rcases Bool.eq_false_or_eq_true (decide (0 ≤ a + n)) with h1 | h1
    · rcases Bool.eq_false_or_eq_true (decide (a + (n : Int) < n)) with h2 | h2
      all_goals
        clear hp hb
        go_enter Tryz.func166, Tryz.ntmps166
        go_wp2_with fail
        refine HL.out.mono ?_
        rintro e w' ⟨rfl, rfl⟩
        go_wp2_with fail
        refine HL.out.mono ?_
        rintro e w' ⟨rfl, rfl⟩
        go_wp2_with fail
        go_ret2
        exact ⟨by simp [h1, h2], rfl⟩
    · clear hp hb
      go_enter Tryz.func166, Tryz.ntmps166
      go_wp2_with fail
      refine HL.out.mono ?_
      rintro e w' ⟨rfl, rfl⟩
      go_wp2_with fail
      go_ret2
      exact ⟨by simp [h1], rfl⟩
  · have hd : decide (a < 0) = false := by simp; omega
    have hd2 : decide (0 ≤ a) = true := by simp; omega
    have hp : placeN n a = a := by unfold placeN; rw [if_neg h0]
    have hb : placeB n a = (decide (0 ≤ a) && decide (a < n)) := by unfold placeB; rw [hp]
    rw [hp, hb]
    clear hp hb
    rcases Bool.eq_false_or_eq_true (decide (a < (n : Int))) with h2 | h2
    all_goals
      go_enter Tryz.func166, Tryz.ntmps166
      go_wp2_with fail
      refine HL.out.mono ?_
      rintro e w' ⟨rfl, rfl⟩
      go_wp2_with fail
      go_ret2
      exact ⟨by simp [hd2, h2], rfl⟩
theorem placeB_lt {n : Nat} {a : Int} (h : placeB n a = true) : ∃ i, i < n ∧ placeN n a = (i : Int) := by
  unfold placeB at h
  simp only [Bool.and_eq_true, decide_eq_true_eq] at h
  exact ⟨(placeN n a).toNat, by omega, by omega⟩
def getV (L : List ByteArray) (a : Int) : Value := .tuple #[.string (if placeB L.length a then L.getD (placeN L.length a).toNat ByteArray.empty else ByteArray.empty), .bool (placeB L.length a)]
set_option maxHeartbeats 800000 in
set_option maxRecDepth 100000 in
theorem get_row {w : World} {p g cap : Nat} {cur : Array Value} {L : List ByteArray} (h : PackRow w p g cap cur L) (hl : Laid w) (a : Int) (ha : -9223372036854775808 ≤ a ∧ a ≤ 9223372036854775807) :
    Calls Tryz.prog 164 #[.pointer (some ⟨p, 0, none⟩), .int .i64 a] w fun e w' => e = .returned (getV L a) ∧ Below w.heap.size w w' := by
  have c0 := h.cell0
  have HP := Lib.hid (place_row h a ha)
  cases hb : placeB L.length a with
  | false =>
    have hv : getV L a = .tuple #[.string ByteArray.empty, .bool false] := by unfold getV; rw [hb]; simp
    rw [hb] at HP
    rw [hv]
    clear h hb hv
    go_enter Tryz.func164, Tryz.ntmps164
    go_wp2_with fail
    refine HP.out.mono ?_
    rintro e w1 ⟨rfl, rfl⟩
    go_wp2_with fail
    go_ret2
    exact ⟨rfl, Below.refl _ _⟩
  | true =>
    obtain ⟨i, hi, hpi⟩ := placeB_lt hb
    have hv : getV L a = .tuple #[.string L[i], .bool true] := by
      unfold getV; rw [hb, hpi]; simp [List.getD, hi]
    rw [hb, hpi] at HP
    rw [hv]
    have hchg : ∀ w', Below w.heap.size w w' → PackRow w' p g cap cur L := fun w' hb => h.chg (Chg.of_below (fun _ => False) hb) id id
    have HSk := Lib.hid (fun m => seek_row (hchg _ (belowN (Below.refl _ _) m)) (hl.below (belowN (Below.refl _ _) m)) (i := i) (by omega))
    have HRd := Lib.hid (fun w' hb => read_row (hchg w' hb) (hl.below hb) hi)
    have hk := (offL_lt L i).2
    have hle := h.le
    have hsz := h.ok.size
    have hcm := h.capm
    unfold maxLen at hcm
    obtain ⟨x, hx⟩ : ∃ x, L[i] = x := ⟨_, rfl⟩
    obtain ⟨nh, hnh⟩ : ∃ nh, (headL x).length = nh := ⟨_, rfl⟩
    rw [hx, hnh] at HRd
    rw [hx]
    generalize offL L i = k at *
    generalize sizeP L = sz at *
    have hkc : ¬ cap = k := by omega
    have hkle : k ≤ sz := by omega
    obtain ⟨X1, f, hX1, hf, hF⟩ := classOf (fun x => x.cell? ⟨p, 0, none⟩ = some (.slice (some ⟨g, 0, none⟩) sz cap)) c0
    have HF := Lib.hid hF
    have HF1 := Lib.hid (hF w.drew c0)
    have HC0 := Lib.hid c0
    have HPl := Lib.hid (heap_lt h.head)
    clear h hchg hl hF hb hpi hv hx hnh
    go_enter Tryz.func164, Tryz.ntmps164
    go_wp2_with fail
    refine HP.out.mono ?_
    rintro e w1 ⟨rfl, rfl⟩
    go_wp2_with fail
    clear c0
    refine wp_region_text ⟨[6, 8], [9, 10, 11, 12, 13, 14, 15], 8⟩ (fun w' => ∃ x : X1, w' = f x) (by kernel_rfl) (by kernel_rfl) HF1.out ?_
    refine wpC_seg false (HF1.out) 6 0 _ _ (by rfl) (by rfl) ?_
    simp only [List.take_succ_cons, List.take_zero, List.drop_succ_cons, List.drop_zero, Bool.false_eq_true, if_false, Nat.zero_add, Nat.reduceAdd]
    repeat (go_big_quiet_step (fail))
    refine wpQuiet_nil ?_
    refine wpC_loud (by rfl) (by rfl) fun K hK => ?_
    go_wp2_with fail
    refine (HSk.out 1).mono ?_
    rintro e w2 ⟨rfl, b2⟩
    have HB2 := Lib.hid ((belowN (Below.refl w.heap.size w) 1).trans b2)
    have HF2 := Lib.hid (HF.out w2 (by rw [HB2.out.cell HPl.out]; exact HC0.out))
    refine hK _ _ (fun _ => HF2.out) ?_
    clear hK b2
    refine wpC_seg false (HF2.out) 1 7 _ _ (by rfl) (by rfl) ?_
    simp only [List.take_succ_cons, List.take_zero, List.drop_succ_cons, List.drop_zero, Bool.false_eq_true, if_false, Nat.zero_add, Nat.reduceAdd]
    repeat (go_big_quiet_step (fail))
    refine wpQuiet_nil ?_
    refine wpC_loud (by rfl) (by rfl) fun K hK => ?_
    go_wp2_with fail
    refine (HRd.out _ HB2.out).mono ?_
    rintro e w3 ⟨rfl, b3⟩
    have HB3 := Lib.hid (HB2.out.trans (b3.mono HB2.out.size))
    refine hK _ _ (fun h => absurd h (by decide)) ?_
    clear hK b3
    refine wpC_segD 7 9 _ _ (by rfl) (by rfl) ?_
    simp only [List.take_succ_cons, List.take_zero, List.drop_succ_cons, List.drop_zero, if_true, Nat.zero_add, Nat.reduceAdd]
    repeat (go_big_quiet_step (fail))
    refine wpQuiet_nil ?_
    refine wpC_nil ?_
    clear hf hX1 HF HF1 HF2 f
    go_wp2_with fail
    go_ret2
    exact ⟨rfl, HB3.out⟩
end Go.Proofs.YtlecnlnpgghmbaaGreatDoor
