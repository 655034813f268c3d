import Derived.WalkKit
import Derived.Deep.Draws
namespace Go.Proofs.YtcoepekoacpgnaaDoor
set_option linter.unusedVariables false
set_option linter.unusedSimpArgs false
open Go.RowKit
/-- The number whose bytes these are, the lowest first. -/
def lowN : List UInt8 → Nat
  | [] => 0
  | c :: l => c.toNat + 256 * lowN l
theorem lowN_lt : ∀ (l : List UInt8), lowN l < 256 ^ l.length
  | [] => by simp [lowN]
  | c :: l => by
    have := lowN_lt l
    have hc := c.toNat_lt
    simp only [lowN, List.length_cons, Nat.pow_succ]
    omega
theorem lowN_lt64 (l : List UInt8) (h : l.length ≤ 8) : lowN l < 18446744073709551616 := by
  have h1 := lowN_lt l
  have h2 : 256 ^ l.length ≤ 256 ^ 8 := Nat.pow_le_pow_right (by omega) h
  have h3 : (256 : Nat) ^ 8 = 18446744073709551616 := by decide
  omega
theorem lowN_drop (l : List UInt8) (i : Nat) (h : i < l.length) : lowN (l.drop i) = l[i].toNat + 256 * lowN (l.drop (i + 1)) := by
  rw [List.drop_eq_getElem_cons h]
  rfl
theorem u64_or_low (n c : Nat) (hc : c < 256) (h : 256 * n + c < 18446744073709551616) : bits .or .u64 ((n * 256 : Nat) : Int) (c : Int) = ((c + 256 * n : Nat) : Int) := by
  rw [u64_or_nat _ _ (by omega) (by omega)]
  have := Nat.shiftLeft_add_eq_or_of_lt (i := 8) (b := c) (by simpa using hc) n
  rw [Nat.shiftLeft_eq] at this
  simp only [Nat.reducePow] at this
  rw [← this]; congr 1; omega

/-- A number's bytes, the lowest first, in so many. -/
def leN : Nat → Nat → List UInt8
  | 0, _ => []
  | k + 1, n => UInt8.ofNat n :: leN k (n / 256)
@[simp] theorem leN_length : ∀ k n, (leN k n).length = k
  | 0, _ => rfl
  | k + 1, n => by simp [leN, leN_length k]
theorem leN_get : ∀ (k n i : Nat) (h : i < (leN k n).length), (leN k n)[i].toNat = n / 256 ^ i % 256
  | 0, n, i, h => by simp [leN] at h
  | k + 1, n, 0, h => by simp [leN, UInt8.toNat_ofNat']
  | k + 1, n, i + 1, h => by
    simp only [leN, List.getElem_cons_succ]
    rw [leN_get k (n / 256) i (by simpa [leN] using h), Nat.div_div_eq_div_mul, Nat.pow_succ, Nat.mul_comm 256]
theorem lowN_leN : ∀ k n, lowN (leN k n) = n % 256 ^ k
  | 0, n => by simp [leN, lowN, Nat.mod_one]
  | k + 1, n => by
    simp only [leN, lowN, lowN_leN k, UInt8.toNat_ofNat', Nat.reducePow]
    rw [Nat.pow_succ, Nat.mul_comm _ 256, Nat.mod_mul]
theorem leN_lowN : ∀ (l : List UInt8), leN l.length (lowN l) = l
  | [] => rfl
  | c :: l => by
    have hc := c.toNat_lt
    simp only [List.length_cons, leN, lowN]
    rw [show (c.toNat + 256 * lowN l) / 256 = lowN l by omega, leN_lowN l]
    congr 1
    apply UInt8.toNat.inj
    simp
/-- Values stored over a row, from a place on. -/
def wrs (cs : Array Value) : Nat → List Value → Array Value
  | _, [] => cs
  | o, v :: l => wrs (cs.setIfInBounds o v) (o + 1) l
@[simp] theorem wrs_size : ∀ (l : List Value) (cs : Array Value) (o : Nat), (wrs cs o l).size = cs.size
  | [], _, _ => rfl
  | v :: l, cs, o => by simp [wrs, wrs_size l]
theorem wrs_get : ∀ (l : List Value) (cs : Array Value) (o i : Nat),
    (wrs cs o l)[i]? = if o ≤ i ∧ i < o + l.length ∧ i < cs.size then l[i - o]? else cs[i]?
  | [], cs, o, i => by simp [wrs]; omega
  | v :: l, cs, o, i => by
    simp only [wrs, wrs_get l, Array.size_setIfInBounds, List.length_cons, Array.getElem?_setIfInBounds]
    by_cases h1 : o = i
    · subst h1
      by_cases h2 : o < cs.size
      · rw [if_neg (by omega), if_pos rfl, if_pos h2, if_pos (by omega)]; simp
      · rw [if_neg (by omega), if_pos rfl, if_neg h2, if_neg (by omega)]; simp [Array.getElem?_eq_none (by omega : cs.size ≤ o)]
    · by_cases h2 : o + 1 ≤ i ∧ i < o + 1 + l.length ∧ i < cs.size
      · rw [if_pos h2, if_pos (by omega)]
        rw [show i - o = (i - (o + 1)) + 1 by omega]; simp
      · rw [if_neg h2, if_neg h1, if_neg (by omega)]
theorem wrs_snoc : ∀ (l : List Value) (cs : Array Value) (o : Nat) (v : Value), wrs cs o (l ++ [v]) = (wrs cs o l).setIfInBounds (o + l.length) v
  | [], cs, o, v => rfl
  | x :: l, cs, o, v => by
    simp only [List.cons_append, wrs, wrs_snoc l, List.length_cons]
    congr 1; omega
/-- Bytes as cells. -/
abbrev u8v (c : UInt8) : Value := .int .u8 c.toNat
theorem leN_snoc : ∀ (k n : Nat), leN (k + 1) n = leN k n ++ [UInt8.ofNat (n / 256 ^ k)]
  | 0, n => by simp [leN]
  | k + 1, n => by
    show UInt8.ofNat n :: leN (k + 1) (n / 256) = (UInt8.ofNat n :: leN k (n / 256)) ++ [_]
    rw [leN_snoc k (n / 256), Nat.div_div_eq_div_mul, Nat.pow_succ, Nat.mul_comm 256]; rfl
theorem cell_in {w : World} {b : Nat} {cs : Array Value} {E : TypeId} {fz : Nat × Nat} (h : w.heap[b]? = some (.cells cs E fz)) {i : Nat} {v : Value} (hv : cs[i]? = some v) : w.cell? ⟨b, i, none⟩ = some v := by
  simp [World.cell?, h, hv]
theorem frozen_in {w : World} {b : Nat} {cs : Array Value} {E : TypeId} (h : w.heap[b]? = some (.cells cs E (0, 0))) (i : Nat) : w.frozen? ⟨b, i, none⟩ = false := by
  simp [World.frozen?, h]
theorem heap_setRow {w : World} {b : Nat} {cs : Array Value} {E : TypeId} {fz : Nat × Nat} (h : w.heap[b]? = some (.cells cs E fz)) (cs' : Array Value) : (w.setRow b cs').heap[b]? = some (.cells cs' E fz) := setRow_heap w b cs cs' E fz h
theorem setRow_eq {w : World} {b : Nat} {cs : Array Value} {E : TypeId} {fz : Nat × Nat} (h : w.heap[b]? = some (.cells cs E fz)) : w.setRow b cs = w := setRow_self w b cs E fz h
theorem setRow_setCell {w : World} {b : Nat} {cs : Array Value} {E : TypeId} {fz : Nat × Nat} (h : w.heap[b]? = some (.cells cs E fz)) (cs' : Array Value) (i : Nat) (v : Value) :
    (w.setRow b cs').setCell ⟨b, i, none⟩ v = w.setRow b (cs'.setIfInBounds i v) := by
  rw [setCell_eq_setRow _ b i cs' E fz v (heap_setRow h cs'), setRow_setRow]
theorem ret1 {a b : Value} (h : a = b) : Ending.returned a = Ending.returned b := by rw [h]
theorem belowN {B : Nat} {a w : World} (h : Below B a w) (n : Nat) : Below B a (w.drewN n) := h.trans ⟨rfl, rfl, rfl, Nat.le_refl _, fun _ _ => rfl⟩
/-- What a call did: it may have changed the blocks of S, and made new ones; all else is as it was. -/
structure Chg (S : Nat → Prop) (w w' : World) : Prop where
  os : w'.os = w.os
  tape : w'.tape = w.tape
  output : w'.output = w.output
  size : w.heap.size ≤ w'.heap.size
  block : ∀ k, k < w.heap.size → ¬ S k → w'.heap[k]? = w.heap[k]?
theorem Chg.refl (S : Nat → Prop) (w : World) : Chg S w w := ⟨rfl, rfl, rfl, Nat.le_refl _, fun _ _ _ => rfl⟩
theorem Chg.trans {S S' : Nat → Prop} {a b c : World} (h : Chg S a b) (k : Chg S' b c) (hs : ∀ i, S' i → i < a.heap.size → S i) : Chg S a c :=
  ⟨k.os.trans h.os, k.tape.trans h.tape, k.output.trans h.output, Nat.le_trans h.size k.size, fun i hi hn => (k.block i (Nat.lt_of_lt_of_le hi h.size) (fun h' => hn (hs i h' hi))).trans (h.block i hi hn)⟩
theorem Chg.mono {S S' : Nat → Prop} {a b : World} (h : Chg S a b) (hs : ∀ i, S i → i < a.heap.size → S' i) : Chg S' a b :=
  ⟨h.os, h.tape, h.output, h.size, fun i hi hn => h.block i hi (fun h' => hn (hs i h' hi))⟩
theorem Chg.drewN (S : Nat → Prop) (w : World) (n : Nat) : Chg S w (w.drewN n) := ⟨rfl, rfl, rfl, Nat.le_refl _, fun _ _ _ => rfl⟩
theorem Chg.drew (S : Nat → Prop) (w : World) : Chg S w w.drew := ⟨rfl, rfl, rfl, Nat.le_refl _, fun _ _ _ => rfl⟩
theorem Chg.alloc (S : Nat → Prop) (w : World) (o : Obj) : Chg S w (w.alloc o) := ⟨rfl, rfl, rfl, by simp, fun k hk _ => Below.heap_alloc _ _ _ hk⟩
theorem Chg.setRow (S : Nat → Prop) (w : World) (g : Nat) (cs : Array Value) (h : S g) : Chg S w (w.setRow g cs) :=
  ⟨rfl, rfl, rfl, by simp, fun k _ hn => setRow_other w g k cs (fun e => hn (e ▸ h))⟩
theorem Chg.setCell (S : Nat → Prop) (w : World) (a : Addr) (v : Value) (h : S a.block) : Chg S w (w.setCell a v) :=
  ⟨rfl, rfl, rfl, by simp [World.setCell], fun k _ hn => Below.heap_setCell _ _ _ _ (fun e => hn (e ▸ h))⟩
theorem Chg.of_below {w w' : World} (S : Nat → Prop) (h : Below w.heap.size w w') : Chg S w w' := ⟨h.os, h.tape, h.output, h.size, fun k hk _ => h.block k hk⟩
theorem Chg.of_grown {w w' : World} {row : Option Nat} (S : Nat → Prop) (h : w.grownBy w' row) (hr : ∀ k, row = some k → S k) : Chg S w w' :=
  ⟨h.os, h.tape, h.output, h.size, fun k hk hn => h.block k hk (fun e => hn (hr k e.symm))⟩
theorem belowChg {B : Nat} {S : Nat → Prop} {a w w' : World} (h : Below B a w) (hc : Chg S w w') (hB : B ≤ w.heap.size) (hs : ∀ k, S k → k < w.heap.size → B ≤ k) : Below B a w' :=
  h.trans ⟨hc.os, hc.tape, hc.output, hc.size, fun k hk => hc.block k (by omega) (fun h' => by have := hs k h' (by omega); omega)⟩
theorem Chg.keep {S : Nat → Prop} {w w' : World} (h : Chg S w w') {k : Nat} {o : Obj} (hk : w.heap[k]? = some o) (hn : ¬ S k) : w'.heap[k]? = some o := by
  rw [h.block k (Array.getElem?_eq_some_iff.1 hk).1 hn]; exact hk
theorem heap_lt {w : World} {k : Nat} {o : Obj} (hk : w.heap[k]? = some o) : k < w.heap.size := (Array.getElem?_eq_some_iff.1 hk).1
theorem heap_new (w : World) (o : Obj) : (w.alloc o).heap[w.heap.size]? = some o := heap_alloc_new w o
theorem heap_old {w : World} {k : Nat} {o : Obj} (hk : w.heap[k]? = some o) (o' : Obj) : (w.alloc o').heap[k]? = some o := by
  rw [Below.heap_alloc _ _ _ (heap_lt hk)]; exact hk
theorem wrs_list : ∀ (b' b a c : List Value), b'.length = b.length → wrs (a ++ (b ++ c)).toArray a.length b' = (a ++ (b' ++ c)).toArray
  | [], [], a, c, _ => rfl
  | x :: b', y :: b, a, c, h => by
    simp only [wrs]
    have h1 : (a ++ (y :: b ++ c)).toArray.setIfInBounds a.length x = ((a ++ [x]) ++ (b ++ c)).toArray := by simp
    rw [h1, show a.length + 1 = (a ++ [x]).length by simp, wrs_list b' b (a ++ [x]) c (by simpa using h)]
    simp
  | [], _ :: _, _, _, h => by simp at h
  | _ :: _, [], _, _, h => by simp at h
/-- A row whose cells are known, none of them frozen. (What '[]byte(s)' makes bears a mark behind its last cell.) -/
def RowAt (w : World) (g : Nat) (e : TypeId) (cur : Array Value) : Prop := ∃ fz : Nat × Nat, (∀ i, i < cur.size → ¬ (fz.1 ≤ i ∧ i < fz.2)) ∧ w.heap[g]? = some (.cells cur e fz)
theorem RowAt.of {w : World} {g : Nat} {e : TypeId} {cur : Array Value} (h : w.heap[g]? = some (.cells cur e (0, 0))) : RowAt w g e cur := ⟨(0, 0), fun i _ => by simp, h⟩
section
variable {w : World} {g : Nat} {e : TypeId} {cur : Array Value}
theorem RowAt.cell (h : RowAt w g e cur) {i : Nat} {v : Value} (hv : cur[i]? = some v) : w.cell? ⟨g, i, none⟩ = some v := by
  obtain ⟨fz, _, hh⟩ := h
  exact cell_in hh hv
theorem RowAt.free (h : RowAt w g e cur) {i : Nat} (hi : i < cur.size) : w.frozen? ⟨g, i, none⟩ = false := by
  obtain ⟨⟨lo, hi'⟩, hf, hh⟩ := h
  have := hf i hi
  simp only [World.frozen?, hh, Bool.and_eq_false_iff, decide_eq_false_iff_not]
  by_cases h1 : lo ≤ i
  · exact .inr fun h2 => this ⟨h1, h2⟩
  · exact .inl h1
theorem RowAt.lt (h : RowAt w g e cur) : g < w.heap.size := by
  obtain ⟨fz, _, hh⟩ := h
  exact heap_lt hh
theorem RowAt.keep (h : RowAt w g e cur) {S : Nat → Prop} {w' : World} (hc : Chg S w w') (hn : ¬ S g) : RowAt w' g e cur := by
  obtain ⟨fz, hf, hh⟩ := h
  exact ⟨fz, hf, hc.keep hh hn⟩
theorem RowAt.setRow (h : RowAt w g e cur) {cs : Array Value} (hs : cs.size = cur.size) : RowAt (w.setRow g cs) g e cs := by
  obtain ⟨fz, hf, hh⟩ := h
  exact ⟨fz, by rw [hs]; exact hf, heap_setRow hh cs⟩
theorem RowAt.other (h : RowAt w g e cur) {k : Nat} (cs : Array Value) (hk : g ≠ k) : RowAt (w.setRow k cs) g e cur := by
  obtain ⟨fz, hf, hh⟩ := h
  exact ⟨fz, hf, by rw [setRow_other _ _ _ _ hk]; exact hh⟩
theorem RowAt.drewN (h : RowAt w g e cur) (n : Nat) : RowAt (w.drewN n) g e cur := h
theorem RowAt.setSame (h : RowAt w g e cur) : w.setRow g cur = w := by
  obtain ⟨fz, hf, hh⟩ := h
  exact setRow_eq hh
theorem RowAt.setSet (h : RowAt w g e cur) (cs : Array Value) (i : Nat) (v : Value) : (w.setRow g cs).setCell ⟨g, i, none⟩ v = w.setRow g (cs.setIfInBounds i v) := by
  obtain ⟨fz, hf, hh⟩ := h
  exact setRow_setCell hh cs i v
theorem RowAt.setCell (h : RowAt w g e cur) (i : Nat) (v : Value) : w.setCell ⟨g, i, none⟩ v = w.setRow g (cur.setIfInBounds i v) := by
  have := h.setSet cur i v
  rwa [h.setSame] at this
theorem RowAt.old (h : RowAt w g e cur) (o : Obj) : RowAt (w.alloc o) g e cur := by
  obtain ⟨fz, hf, hh⟩ := h
  exact ⟨fz, hf, heap_old hh o⟩
end
end Go.Proofs.YtcoepekoacpgnaaDoor
