/- Lemmas and walks for ListPlays, part 4 of 5: the texts Rfl1, Rfl2, Rfl3, Rfl4, Rfl5, Rfl6, Lpl1, Lpl2, Sln, Bk0, Bk1, Bk2, Bk3, Bk4, Bk5, Bk6, Bk7, Bk8, Bk9. -/
import Derived.Test.YtlecnlnpgghmbaaGreatDoorMZ3
import Derived.Test.YtlecnlnpgghmbaaGreatDoorMZ2
import Derived.Test.YtlecnlnpgghmbaaGreatDoorMZ1
/- The document's list (stillroomref12): as an object; seen, New, Len, Small, place, Get, Bounds; the nil one. -/
namespace Go.Proofs.YtlecnlnpgghmbaaGreatDoor
set_option linter.unusedVariables false
set_option linter.unusedSimpArgs false
open Go.RowKit
/-- The document's list: its block; its texts lie in a row that nobody writes. -/
structure RefL (w : World) (r : Nat) (F : Nat → Prop) (L : List ByteArray) (sm : Bool) (a : Option Addr) (cap : Nat) : Prop where
  head : w.heap[r]? = some (.cells #[.slice a L.length cap, .bool (!sm)] 64 (0, 0))
  row : ArgRow w a L.length cap fun i => .string (L.getD i ByteArray.empty)
  all : ∀ k, F k ↔ k = r ∨ (0 < L.length ∧ ∃ b o, a = some ⟨b, o, none⟩ ∧ k = b)
  off : ¬ (0 < L.length ∧ ∃ b o, a = some ⟨b, o, none⟩ ∧ r = b)
  few : L.length ≤ 1048576
section
variable {w w' : World} {r : Nat} {F : Nat → Prop} {L : List ByteArray} {sm : Bool} {a : Option Addr} {cap : Nat}
theorem ArgRow.chgO {f : Nat → Value} {n : Nat} (h : ArgRow w a n cap f) {S : Nat → Prop} (hc : Chg S w w') (hn : ∀ b o, 0 < n → a = some ⟨b, o, none⟩ → ¬ S b) : ArgRow w' a n cap f := by
  refine ⟨h.1, ?_⟩
  rcases Nat.eq_zero_or_pos n with h0 | h0
  · exact .inl h0
  · rcases h.2 with h2 | ⟨b, o, e, hf⟩
    · exact .inl h2
    · refine .inr ⟨b, o, e, fun i hi => ?_⟩
      have h1 := hf i hi
      have := hc.block b (World.block_lt_of_cell? w _ h1) (hn b o h0 e)
      rw [← h1]
      simp only [World.cell?, this]
theorem RefL.chg (h : RefL w r F L sm a cap) {S : Nat → Prop} (hc : Chg S w w') (hn : ∀ k, F k → ¬ S k) : RefL w' r F L sm a cap :=
  { h with head := hc.keep h.head (hn r ((h.all r).2 (.inl rfl))), row := h.row.chgO hc fun b o h0 e => hn b ((h.all b).2 (.inr ⟨h0, b, o, e, rfl⟩)) }
theorem RefL.below (h : RefL w r F L sm a cap) (hb : Below w.heap.size w w') : RefL w' r F L sm a cap := h.chg (Chg.of_below (fun _ => False) hb) fun _ _ => id
theorem RefL.lt (h : RefL w r F L sm a cap) {k : Nat} (hk : F k) : k < w.heap.size := by
  rcases (h.all k).1 hk with rfl | ⟨h0, b, o, e, rfl⟩
  · exact heap_lt h.head
  · rcases h.row.2 with h2 | ⟨b', o', e', hf⟩
    · omega
    · rw [e] at e'; cases e'
      exact World.block_lt_of_cell? w _ (hf 0 h0)
/-- Its texts and flag have been changed. -/
theorem RefL.step (h : RefL w r F L sm a cap) {w1 : World} (hb : Below w.heap.size w w1) {L' : List ByteArray} {sm' : Bool} {a' : Option Addr} {cap' : Nat} {w2 : World} (h2 : w2.heap[r]? = some (.cells #[.slice a' L'.length cap', .bool (!sm')] 64 (0, 0)))
    (hc : Chg (fun k => k = r) w1 w2) (hrow : ArgRow w1 a' L'.length cap' fun i => .string (L'.getD i ByteArray.empty)) (hn : L'.length ≤ 1048576)
    (hf : ∀ b o, 0 < L'.length → a' = some ⟨b, o, none⟩ → b ≠ r ∧ (F b ∨ w.heap.size ≤ b)) :
    (∃ F', RefL w2 r F' L' sm' a' cap' ∧ Fresh w F F') ∧ Chg F w w2 := by
  refine ⟨⟨fun k => k = r ∨ (0 < L'.length ∧ ∃ b o, a' = some ⟨b, o, none⟩ ∧ k = b), ⟨h2, hrow.chgO hc fun b o h0 e => (hf b o h0 e).1, fun k => Iff.rfl, ?_, hn⟩, ?_⟩, (Chg.of_below F hb).trans hc fun k hk _ => by rw [hk]; exact (h.all r).2 (.inl rfl)⟩
  · rintro ⟨h0, b, o, e, rfl⟩
    exact (hf _ o h0 e).1 rfl
  · rintro k (rfl | ⟨h0, b, o, e, rfl⟩)
    · exact .inl ((h.all _).2 (.inl rfl))
    · exact (hf _ o h0 e).2
end
set_option maxHeartbeats 1600000 in
set_option maxRecDepth 100000 in
theorem seen_any {w : World} {r n c : Nat} {a : Option Addr} {sm : Bool} (h : w.heap[r]? = some (.cells #[.slice a n c, .bool (!sm)] 64 (0, 0))) (s : ByteArray) :
    Calls Tryz.prog 21 #[pv r, .string s] w fun e w' => (∃ v, e = .returned v) ∧ w'.heap[r]? = some (.cells #[.slice a n c, .bool (!(sm && keeps (n : Int) s))] 64 (0, 0)) ∧ Chg (fun k => k = r) w w' := by
  have c0 := cell_in h (i := 0) rfl
  have c1 := cell_in h (i := 1) rfl
  have f1 := frozen_in h 1
  have HE := Lib.hid (fun (w2 : World) (g : Bool) (hw : w2 = w.setCell ⟨r, 1, none⟩ (.bool g)) => show w2.heap[r]? = some (.cells #[.slice a n c, .bool g] 64 (0, 0)) ∧ Chg (fun k => k = r) w w2 from
    ⟨by rw [hw]; exact setCell_head h 1 _, by rw [hw]; exact Chg.setCell _ _ _ _ rfl⟩)
  obtain ⟨kk, hkk⟩ : ∃ kk, kk = keeps (n : Int) s := ⟨_, rfl⟩
  rw [← hkk]
  clear h
  cases sm with
  | false =>
    obtain ⟨w2, hw2⟩ : ∃ w2, w2 = w.setCell ⟨r, 1, none⟩ (.bool true) := ⟨_, rfl⟩
    have HE2 := Lib.hid (HE.out w2 true hw2)
    have HW := Lib.hid hw2
    rw [Bool.not_false] at c1
    rw [Bool.false_and, Bool.not_false]
    clear hw2 hkk
    go_enter Tryz.func21, Tryz.ntmps21
    go_wp2_with fail
    rw [← HW.out]
    go_end0
    exact ⟨⟨_, rfl⟩, HE2.out⟩
  | true =>
    rw [Bool.true_and]
    rw [Bool.not_true] at c1
    unfold keeps at hkk
    by_cases h1 : n ≤ 32
    · have d1 : decide ((32 : Int) < (n : Int)) = false := decide_eq_false (by omega)
      have d1' : decide (32 < n) = false := decide_eq_false (by omega)
      by_cases h2 : s.size ≤ 64
      · have d2 : decide ((64 : Int) < (s.size : Int)) = false := decide_eq_false (by omega)
        have d2' : decide (64 < s.size) = false := decide_eq_false (by omega)
        obtain rfl : kk = true := by rw [hkk]; simp; omega
        obtain ⟨w2, hw2⟩ : ∃ w2, w2 = w.setCell ⟨r, 1, none⟩ (.bool false) := ⟨_, rfl⟩
        have HE2 := Lib.hid (HE.out w2 false hw2)
        have HW := Lib.hid hw2
        clear hw2 hkk h1 h2
        go_enter Tryz.func21, Tryz.ntmps21
        go_wp2_with fail
        rw [← HW.out]
        go_end0
        exact ⟨⟨_, rfl⟩, HE2.out⟩
      · have d2 : decide ((64 : Int) < (s.size : Int)) = true := decide_eq_true (by omega)
        have d2' : decide (64 < s.size) = true := decide_eq_true (by omega)
        obtain rfl : kk = false := by rw [hkk]; simp; omega
        obtain ⟨w2, hw2⟩ : ∃ w2, w2 = w.setCell ⟨r, 1, none⟩ (.bool true) := ⟨_, rfl⟩
        have HE2 := Lib.hid (HE.out w2 true hw2)
        have HW := Lib.hid hw2
        clear hw2 hkk h1 h2
        go_enter Tryz.func21, Tryz.ntmps21
        go_wp2_with fail
        rw [← HW.out]
        go_end0
        exact ⟨⟨_, rfl⟩, HE2.out⟩
    · have d1 : decide ((32 : Int) < (n : Int)) = true := decide_eq_true (by omega)
      have d1' : decide (32 < n) = true := decide_eq_true (by omega)
      obtain rfl : kk = false := by rw [hkk]; simp; omega
      obtain ⟨w2, hw2⟩ : ∃ w2, w2 = w.setCell ⟨r, 1, none⟩ (.bool true) := ⟨_, rfl⟩
      have HE2 := Lib.hid (HE.out w2 true hw2)
      have HW := Lib.hid hw2
      clear hw2 hkk h1
      go_enter Tryz.func21, Tryz.ntmps21
      go_wp2_with fail
      rw [← HW.out]
      go_end0
      exact ⟨⟨_, rfl⟩, HE2.out⟩
set_option maxHeartbeats 800000 in
set_option maxRecDepth 100000 in
theorem refNewL (w : World) : Calls Tryz.prog 20 #[] w fun e w' => e = .returned (pv w.heap.size) ∧ w'.heap[w.heap.size]? = some (.cells #[.slice none 0 0, .bool (!true)] 64 (0, 0)) ∧ Below w.heap.size w w' := by
  obtain ⟨w1, hw1⟩ : ∃ w1, w1 = w.alloc (.cells #[.slice none 0 0, .bool false] 64) := ⟨_, rfl⟩
  have HE := Lib.hid (show w1.heap[w.heap.size]? = some (.cells #[.slice none 0 0, .bool (!true)] 64 (0, 0)) ∧ Below w.heap.size w w1 from ⟨by rw [hw1]; exact heap_new _ _, by rw [hw1]; exact (Below.refl _ _).alloc (Nat.le_refl _) _⟩)
  have HW := Lib.hid hw1
  clear hw1
  go_enter Tryz.func20, Tryz.ntmps20
  go_wp2_with fail
  rw [← HW.out]
  go_ret
  exact ⟨rfl, HE.out⟩
section
variable {w : World} {r : Nat} {F : Nat → Prop} {L : List ByteArray} {sm : Bool} {a : Option Addr} {cap : Nat}
set_option maxHeartbeats 800000 in
set_option maxRecDepth 100000 in
theorem refLenL (h : RefL w r F L sm a cap) : Calls Tryz.prog 35 #[pv r] w fun e w' => e = .returned (.int .i64 L.length) ∧ w = w' := by
  have c0 := cell_in h.head (i := 0) rfl
  clear h
  go_enter Tryz.func35, Tryz.ntmps35
  go_wp2_with fail
  go_ret
  exact ⟨rfl, rfl⟩
set_option maxHeartbeats 800000 in
set_option maxRecDepth 100000 in
theorem refSmallL (h : RefL w r F L sm a cap) : Calls Tryz.prog 37 #[pv r] w fun e w' => e = .returned (.bool sm) ∧ w = w' := by
  have c1 := cell_in h.head (i := 1) rfl
  clear h
  cases sm
  all_goals
    simp only [Bool.not_true, Bool.not_false] at c1
    go_enter Tryz.func37, Tryz.ntmps37
    go_wp2_with fail
    go_ret
    exact ⟨rfl, rfl⟩
set_option maxHeartbeats 800000 in
set_option maxRecDepth 100000 in
theorem refPlaceL (h : RefL w r F L sm a cap) (x : Int) (hx : -9223372036854775808 ≤ x ∧ x ≤ 9223372036854775807) :
    Calls Tryz.prog 72 #[pv r, .int .i64 x] w fun e w' => e = .returned (.tuple #[.int .i64 (qplN L.length x), .bool (qplB L.length x)]) ∧ w = w' := by
  have HL := Lib.hid (refLenL h)
  have hf := h.few
  clear h
  generalize L.length = n at *
  have hn9 : n ≤ 1000000000 := by omega
  have hcase : (x < 0 ∧ qplN n x = x + n) ∨ (0 ≤ x ∧ qplN n x = x) := by
    unfold qplN
    by_cases h : x < 0
    · exact .inl ⟨h, if_pos h⟩
    · exact .inr ⟨by omega, if_neg h⟩
  obtain ⟨p, hp⟩ : ∃ p, p = qplN n x := ⟨_, rfl⟩
  have hb : qplB n x = (decide (0 ≤ p) && decide (p < n)) := by unfold qplB; rw [← hp]
  rw [hb, ← hp]
  rw [← hp] at hcase
  rcases hcase with ⟨h1, h2⟩ | ⟨h1, h2⟩
  · have d1 : decide (x < 0) = true := decide_eq_true h1
    by_cases h3 : 0 ≤ p
    · have d3 : decide (0 ≤ x + (n : Int)) = true := decide_eq_true (by omega)
      have d4 : decide (x + (n : Int) < (n : Int)) = true := decide_eq_true (by omega)
      have e3 : decide (0 ≤ p) = true := decide_eq_true h3
      have e4 : decide (p < (n : Int)) = true := decide_eq_true (by omega)
      rw [e3, e4, h2]
      clear hp hb h2 e3 e4 h3
      go_enter Tryz.func72, Tryz.ntmps72
      go_wp2_with fail
      refine HL.out.mono ?_
      rintro e w' ⟨rfl, rfl⟩
      go_wp2_with fail
      refine HL.out.mono ?_
      rintro e w' ⟨rfl, rfl⟩
      go_wp2_with fail
      go_ret2
      exact ⟨rfl, rfl⟩
    · have d3 : decide (0 ≤ x + (n : Int)) = false := decide_eq_false (by omega)
      have e3 : decide (0 ≤ p) = false := decide_eq_false h3
      rw [e3, Bool.false_and, h2]
      clear hp hb h2 e3 h3
      go_enter Tryz.func72, Tryz.ntmps72
      go_wp2_with fail
      refine HL.out.mono ?_
      rintro e w' ⟨rfl, rfl⟩
      go_wp2_with fail
      go_ret2
      exact ⟨rfl, rfl⟩
  · have d1 : decide (x < 0) = false := decide_eq_false (by omega)
    have d3 : decide (0 ≤ x) = true := decide_eq_true h1
    have e3 : decide (0 ≤ p) = true := decide_eq_true (by omega)
    rw [e3, Bool.true_and, h2]
    clear hp hb h2 e3
    go_enter Tryz.func72, Tryz.ntmps72
    go_wp2_with fail
    refine HL.out.mono ?_
    rintro e w' ⟨rfl, rfl⟩
    go_wp2_with fail
    go_ret2
    exact ⟨rfl, rfl⟩
set_option maxHeartbeats 800000 in
set_option maxRecDepth 100000 in
theorem refGetL (h : RefL w r F L sm a cap) (x : Int) (hx : -9223372036854775808 ≤ x ∧ x ≤ 9223372036854775807) :
    Calls Tryz.prog 33 #[pv r, .int .i64 x] w fun e w' => e = .returned (qgetV L x) ∧ w = w' := by
  have HP := Lib.hid (refPlaceL h x hx)
  have c0 := cell_in h.head (i := 0) rfl
  have hrow := h.row
  have hf := h.few
  clear h
  unfold qgetV
  cases hb : qplB L.length x with
  | false =>
    rw [hb] at HP
    clear hb hrow
    generalize qplN L.length x = p at *
    go_enter Tryz.func33, Tryz.ntmps33
    go_wp2_with fail
    refine HP.out.mono ?_
    rintro e w' ⟨rfl, rfl⟩
    go_wp2_with fail
    go_ret2
    exact ⟨rfl, rfl⟩
  | true =>
    rw [hb] at HP
    have hp : 0 ≤ qplN L.length x ∧ qplN L.length x < L.length := by
      unfold qplB at hb
      simpa using hb
    obtain ⟨i, hi⟩ : ∃ i : Nat, qplN L.length x = i := ⟨(qplN L.length x).toNat, by omega⟩
    rw [hi] at hp HP ⊢
    have hiL : i < L.length := by omega
    obtain ⟨b, o, rfl, hc⟩ := hrow.2.resolve_left (by omega)
    have hcell : w.cell? ⟨b, o + i, none⟩ = some (.string (L.getD i ByteArray.empty)) := hc i hiL
    rw [if_pos rfl, Int.toNat_natCast]
    clear hb hrow hc hp hi
    generalize L.getD i ByteArray.empty = y at *
    go_enter Tryz.func33, Tryz.ntmps33
    go_wp2_with fail
    refine HP.out.mono ?_
    rintro e w' ⟨rfl, rfl⟩
    go_wp2_with fail
    go_ret2
    exact ⟨rfl, rfl⟩
end
end Go.Proofs.YtlecnlnpgghmbaaGreatDoor

/- The document's list: Bounds, Range, Trim, Charge. -/
namespace Go.Proofs.YtlecnlnpgghmbaaGreatDoor
set_option linter.unusedVariables false
set_option linter.unusedSimpArgs false
open Go.RowKit
set_option maxHeartbeats 800000 in
set_option maxRecDepth 100000 in
theorem refBounds {w : World} (n : Nat) (hn : n ≤ 1048576) (a b : Int) (ha : -9223372036854775808 ≤ a ∧ a ≤ 9223372036854775807) (hb : -9223372036854775808 ≤ b ∧ b ≤ 9223372036854775807) :
    Calls Tryz.prog 68 #[.int .i64 a, .int .i64 b, .int .i64 n] w fun e w' => e = .returned (.tuple #[.int .i64 (bdA n a), .int .i64 (bdB n b), .bool (decide (bdA n a ≤ bdB n b))]) ∧ w = w' := by
  have hn9 : n ≤ 1000000000 := by omega
  rcases (show (bdA n a = max (a + n) 0 ∧ decide (a < 0) = true ∧ a < 0) ∨ (bdA n a = a ∧ decide (a < 0) = false ∧ 0 ≤ a) by unfold bdA; by_cases h : a < 0 <;> simp [h] <;> omega) with ⟨ga, da, na⟩ | ⟨ga, da, na⟩
  all_goals
    rcases (show (bdB n b = min (b + n) ((n : Int) - 1) ∧ decide (b < 0) = true ∧ b < 0) ∨ (bdB n b = min b ((n : Int) - 1) ∧ decide (b < 0) = false ∧ 0 ≤ b) by unfold bdB; by_cases h : b < 0 <;> simp [h] <;> omega) with ⟨gb, db, nb⟩ | ⟨gb, db, nb⟩
    all_goals
      rw [ga, gb]
      clear ga gb
      go_enter Tryz.func68, Tryz.ntmps68
      go_wp2_with fail
      refine bodyPost_ret (results_tmp3 rfl _ _ _) rfl ?_
      exact ⟨rfl, rfl⟩
section
variable {w : World} {r : Nat} {F : Nat → Prop} {L : List ByteArray} {sm : Bool} {a : Option Addr} {cap : Nat}
theorem rngL_len_le (L : List ByteArray) (a b : Int) : (rngL L a b).length ≤ L.length := rangeT_length L _ _
/-- The slice of a stretch. -/
def rngA (L : List ByteArray) (a : Option Addr) (cap : Nat) (x y : Int) (v : Value) : Prop :=
  ∃ a' cap', v = .slice a' (rngL L x y).length cap' ∧ ∀ {w : World}, ArgRow w a L.length cap (fun i => .string (L.getD i ByteArray.empty)) → ArgRow w a' (rngL L x y).length cap' (fun i => .string ((rngL L x y).getD i ByteArray.empty)) ∧ (∀ b o, 0 < (rngL L x y).length → a' = some ⟨b, o, none⟩ → 0 < L.length ∧ ∃ o', a = some ⟨b, o', none⟩)
set_option maxHeartbeats 800000 in
set_option maxRecDepth 100000 in
theorem refRangeL (h : RefL w r F L sm a cap) (x y : Int) (hx : -9223372036854775808 ≤ x ∧ x ≤ 9223372036854775807) (hy : -9223372036854775808 ≤ y ∧ y ≤ 9223372036854775807) :
    Calls Tryz.prog 17 #[pv r, .int .i64 x, .int .i64 y] w fun e w' => (∃ v, e = .returned v ∧ rngA L a cap x y v) ∧ w = w' := by
  have HL := Lib.hid (refLenL h)
  have c0 := cell_in h.head (i := 0) rfl
  have hrow := h.row
  have hf := h.few
  have HB := Lib.hid (refBounds (w := w) L.length hf x y hx hy)
  clear h
  by_cases hab : bdA L.length x ≤ bdB L.length y
  · obtain ⟨i, j, e1, e2, hij, hj, e3⟩ := rngL_some hab
    have hd : decide (bdA L.length x ≤ bdB L.length y) = true := decide_eq_true hab
    rw [hd, e1, e2] at HB
    have hlen : (rngL L x y).length = j + 1 - i := by rw [e3, List.length_drop, List.length_take]; omega
    obtain ⟨b, o, rfl, hc⟩ := hrow.2.resolve_left (by omega)
    have hcap := hrow.1
    have hnc : ¬ cap = i := by omega
    have HE := Lib.hid (show rngA L (some ⟨b, o, none⟩) cap x y (.slice (some ⟨b, o + i, none⟩) (j + 1 - i) (cap - i)) from by
      refine ⟨_, _, by rw [hlen], fun {w} hr => ⟨⟨by rw [hlen]; omega, .inr ⟨b, o + i, rfl, fun k hk => ?_⟩⟩, fun b' o' _ e => ?_⟩⟩
      · rw [hlen] at hk
        obtain ⟨b2, o2, e2', hc2⟩ := hr.2.resolve_left (by omega)
        cases e2'
        rw [show o + i + k = o + (i + k) by omega, hc2 (i + k) (by omega), e3]
        simp [List.getD, List.getElem?_drop, List.getElem?_take, show i + k < j + 1 by omega]
      · cases e; exact ⟨by omega, o, rfl⟩)
    clear hrow hc hd hab e1 e2 e3 hlen
    go_enter Tryz.func17, Tryz.ntmps17
    go_wp2_with fail
    refine HL.out.mono ?_
    rintro e w' ⟨rfl, rfl⟩
    go_wp2_with fail
    refine HB.out.mono ?_
    rintro e w' ⟨rfl, rfl⟩
    go_wp2_with fail
    go_ret
    exact ⟨⟨_, rfl, HE.out⟩, rfl⟩
  · have hd : decide (bdA L.length x ≤ bdB L.length y) = false := decide_eq_false hab
    rw [hd] at HB
    have HE := Lib.hid (show rngA L a cap x y (.slice none 0 0) from by
      have e0 := rngL_none hab
      refine ⟨none, 0, by rw [e0]; rfl, fun {w} hr => ⟨⟨by rw [e0]; exact Nat.le_refl _, .inl (by rw [e0]; rfl)⟩, fun b o h => by rw [e0] at h; exact absurd h (by decide)⟩⟩)
    clear hrow hd hab
    generalize bdA L.length x = p at *
    generalize bdB L.length y = q at *
    go_enter Tryz.func17, Tryz.ntmps17
    go_wp2_with fail
    refine HL.out.mono ?_
    rintro e w' ⟨rfl, rfl⟩
    go_wp2_with fail
    refine HB.out.mono ?_
    rintro e w' ⟨rfl, rfl⟩
    go_wp2_with fail
    go_ret
    exact ⟨⟨_, rfl, HE.out⟩, rfl⟩
set_option maxHeartbeats 800000 in
set_option maxRecDepth 100000 in
theorem refTrimL (h : RefL w r F L sm a cap) (x y : Int) (hx : -9223372036854775808 ≤ x ∧ x ≤ 9223372036854775807) (hy : -9223372036854775808 ≤ y ∧ y ≤ 9223372036854775807) :
    Calls Tryz.prog 29 #[pv r, .int .i64 x, .int .i64 y] w fun e w' => (∃ v, e = .returned v) ∧ (∃ F' a' cap', RefL w' r F' (rngL L x y) sm a' cap' ∧ Fresh w F F') ∧ Chg F w w' := by
  have HR := Lib.hid (refRangeL h x y hx hy)
  have c0 := cell_in h.head (i := 0) rfl
  have f0 := frozen_in h.head 0
  have HH := Lib.hid h
  clear h
  go_enter Tryz.func29, Tryz.ntmps29
  go_wp2_with fail
  refine HR.out.mono ?_
  rintro e w' ⟨⟨v, rfl, a', cap', rfl, hA⟩, rfl⟩
  obtain ⟨w2, hw2⟩ : ∃ w2, w2 = w.setCell ⟨r, 0, none⟩ (.slice a' (rngL L x y).length cap') := ⟨_, rfl⟩
  have HE := Lib.hid (show (∃ F' a' cap', RefL w2 r F' (rngL L x y) sm a' cap' ∧ Fresh w F F') ∧ Chg F w w2 from by
    have hle := rngL_len_le L x y
    have hfew := HH.out.few
    have hA2 := hA HH.out.row
    obtain ⟨⟨F', h1, h2⟩, h3⟩ := HH.out.step (Below.refl _ _) (w2 := w2) (L' := rngL L x y) (sm' := sm) (a' := a') (cap' := cap') (by rw [hw2]; exact setCell_head HH.out.head 0 _) (by rw [hw2]; exact Chg.setCell _ _ _ _ rfl) hA2.1 (by omega) (fun b o h0 e => by
      obtain ⟨hL, o', e'⟩ := hA2.2 b o h0 e
      refine ⟨fun er => HH.out.off ⟨hL, b, o', e', er.symm⟩, .inl ((HH.out.all b).2 (.inr ⟨hL, b, o', e', rfl⟩))⟩)
    exact ⟨⟨F', a', cap', h1, h2⟩, h3⟩)
  have HW := Lib.hid hw2
  clear hA hw2
  generalize (rngL L x y).length = m at *
  go_wp2_with fail
  rw [← HW.out]
  go_end0
  exact ⟨⟨_, rfl⟩, HE.out⟩
set_option maxHeartbeats 800000 in
set_option maxRecDepth 100000 in
theorem refChargeL (h : RefL w r F L sm a cap) (hz : ∀ s ∈ L, s.size ≤ 65536) :
    Calls Tryz.prog 39 #[pv r] w fun e w' => e = .returned (.int .i64 (costL L)) ∧ w = w' := by
  have HL := Lib.hid (refLenL h)
  have c0 := cell_in h.head (i := 0) rfl
  have HA := Lib.hid h.row
  have hf := h.few
  have HC := Lib.hid (fun k => costL_le (L.take k) fun s hs => hz s (List.mem_of_mem_take hs))
  have HZ := Lib.hid hz
  obtain ⟨R, hR⟩ : ∃ R, R = costL L := ⟨_, rfl⟩
  rw [← hR]
  have HRs := Lib.hid hR
  clear h hz hR
  go_enter Tryz.func39, Tryz.ntmps39
  go_wp2_with fail
  go_loop [3, 4] (fun n i => ∃ k : Nat, k ≤ L.length ∧ i = .int .i64 k ∧ n = .int .i64 (costL (L.take k) : Nat)) (fun _ i => L.length - (intOf i).toNat)
  case atStart => exact ⟨0, Nat.zero_le _, rfl, rfl⟩
  case round =>
    obtain ⟨k, hk, rfl, rfl⟩ := hrel
    have hc := HC.out k
    rw [List.length_take] at hc
    by_cases hlt : k < L.length
    · obtain ⟨b, o, hb, hcl⟩ := HA.out.2.resolve_left (by omega)
      subst hb
      have hcell : w.cell? ⟨b, o + k, none⟩ = some (.string (L.getD k ByteArray.empty)) := hcl k hlt
      have hy := HZ.out (L.getD k ByteArray.empty) (by simp [List.getD, hlt])
      have HN := Lib.hid (costL_take hlt)
      clear hcl
      generalize L.getD k ByteArray.empty = y at *
      generalize costL (L.take k) = q at *
      go_wp2_with fail
      refine HL.out.mono ?_
      rintro e w' ⟨rfl, rfl⟩
      go_wp2_with fail
      go_round
      case rel => exact ⟨k + 1, by omega, by go_num, by rw [HN.out]; go_num⟩
      case measure => simp [intOf]; omega
    · obtain rfl : k = L.length := by omega
      rw [List.take_of_length_le (Nat.le_refl _), ← HRs.out] at hc ⊢
      go_wp2_with fail
      refine HL.out.mono ?_
      rintro e w' ⟨rfl, rfl⟩
      go_wp2_with fail
      go_ret
      exact ⟨rfl, rfl⟩
end
end Go.Proofs.YtlecnlnpgghmbaaGreatDoor

/- The document's list: Push, Pop. -/
namespace Go.Proofs.YtlecnlnpgghmbaaGreatDoor
set_option linter.unusedVariables false
set_option linter.unusedSimpArgs false
open Go.RowKit
/-- One text behind texts of the call's own making. -/
theorem append_text1 {w : World} {B n : Nat} {v : Value} {xs : List ByteArray} (h : SliceIs w B 9 v n (xs.map strV)) (hB : B ≤ w.heap.size) (s : ByteArray) (hn : n + 1 ≤ 1000000000) :
    ∃ v' w', (Builtin.append_ #[22, 22] 22 #[v, .slice (some ⟨w.heap.size, 0, none⟩) 1 1]).run Tryz.prog (w.alloc (.cells #[.string s] 9)) = .ok v' w' ∧ SliceIs w' B 9 v' (n + 1) ((xs ++ [s]).map strV) ∧ Below B w w' := by
  obtain ⟨i0, g1, g2, g3, g4⟩ := info_parts info_str
  have := run_append_one (P := Tryz.prog) (t := 22) (ty := 22) Tryz.underlying22 g1 g2 g3 g4 rfl h hB (.string s) rfl (by unfold maxLen; omega) (by omega)
  rw [List.map_append]
  exact this
/-- What Push answers. -/
def pushC (L : List ByteArray) (s : ByteArray) : Int := if 65536 < s.size ∨ 1048576 ≤ L.length then 3 else 0
def pushL' (front : Bool) (L : List ByteArray) (s : ByteArray) : List ByteArray := if 65536 < s.size ∨ 1048576 ≤ L.length then L else pushT front L s
def pushS (L : List ByteArray) (s : ByteArray) (sm : Bool) : Bool := if 65536 < s.size ∨ 1048576 ≤ L.length then sm else sm && keeps ((L.length : Int) + 1) s
section
variable {w : World} {r : Nat} {F : Nat → Prop} {L : List ByteArray} {sm : Bool} {a : Option Addr} {cap : Nat}
set_option maxHeartbeats 1600000 in
set_option maxRecDepth 100000 in
theorem refPushL (h : RefL w r F L sm a cap) (front : Bool) (s : ByteArray) (hs : s.size ≤ 9000000000000000000) :
    Calls Tryz.prog 23 #[pv r, .bool front, .string s] w fun e w' => e = .returned (.int .i64 (pushC L s)) ∧ (∃ F' a' cap', RefL w' r F' (pushL' front L s) (pushS L s sm) a' cap' ∧ Fresh w F F') ∧ Chg F w w' := by
  have c0 := cell_in h.head (i := 0) rfl
  have hf := h.few
  have HH := Lib.hid h
  by_cases hlim : 65536 < s.size ∨ 1048576 ≤ L.length
  · have e1 : pushC L s = 3 := if_pos hlim
    have e2 : pushL' front L s = L := if_pos hlim
    have e3 : pushS L s sm = sm := if_pos hlim
    rw [e1, e2, e3]
    have HE := Lib.hid (show (∃ F' a' cap', RefL w r F' L sm a' cap' ∧ Fresh w F F') ∧ Chg F w w from ⟨⟨F, a, cap, h, fun k hk => .inl hk⟩, Chg.refl _ _⟩)
    by_cases hz : 65536 < s.size
    · have d1 : decide ((65536 : Int) < (s.size : Int)) = true := decide_eq_true (by omega)
      have d1' : decide (65536 < s.size) = true := decide_eq_true (by omega)
      clear h e1 e2 e3 hlim
      go_enter Tryz.func23, Tryz.ntmps23
      go_wp2_with fail
      go_ret
      exact ⟨rfl, HE.out⟩
    · have d1 : decide ((65536 : Int) < (s.size : Int)) = false := decide_eq_false (by omega)
      have d1' : decide (65536 < s.size) = false := decide_eq_false (by omega)
      have d2 : decide ((1048576 : Int) ≤ (L.length : Int)) = true := decide_eq_true (by omega)
      have d2' : decide (1048576 ≤ L.length) = true := decide_eq_true (by omega)
      clear h e1 e2 e3 hlim
      go_enter Tryz.func23, Tryz.ntmps23
      go_wp2_with fail
      go_ret
      exact ⟨rfl, HE.out⟩
  · have e1 : pushC L s = 0 := if_neg hlim
    have e2 : pushL' front L s = pushT front L s := if_neg hlim
    have e3 : pushS L s sm = (sm && keeps ((L.length : Int) + 1) s) := if_neg hlim
    rw [e1, e2, e3]
    have d1 : decide ((65536 : Int) < (s.size : Int)) = false := decide_eq_false (by omega)
    have d1' : decide (65536 < s.size) = false := decide_eq_false (by omega)
    have d2 : decide ((1048576 : Int) ≤ (L.length : Int)) = false := decide_eq_false (by omega)
    have d2' : decide (1048576 ≤ L.length) = false := decide_eq_false (by omega)
    have hn9 : L.length ≤ 1000000000 := by omega
    have HEnd := Lib.hid (show ∀ (w4 w5 w6 : World) (a5 : Option Addr) (c5 : Nat), Below w.heap.size w w4 → SliceIs w4 w.heap.size 9 (.slice a5 (L.length + 1) c5) (L.length + 1) ((pushT front L s).map strV) → w5 = w4.setCell ⟨r, 0, none⟩ (.slice a5 (L.length + 1) c5) →
        (w5.heap[r]? = some (.cells #[.slice a5 (L.length + 1) c5, .bool (!sm)] 64 (0, 0))) ∧ (w6.heap[r]? = some (.cells #[.slice a5 (L.length + 1) c5, .bool (!(sm && keeps (((L.length + 1 : Nat)) : Int) s))] 64 (0, 0)) → Chg (fun k => k = r) w5 w6 →
          (∃ F' a' cap', RefL w6 r F' (pushT front L s) (sm && keeps ((L.length : Int) + 1) s) a' cap' ∧ Fresh w F F') ∧ Chg F w w6) from fun w4 w5 w6 a5 c5 b4 s4 hw5 => by
      have h4 := (h.below b4).head
      have hh5 : w5.heap[r]? = some (.cells #[.slice a5 (L.length + 1) c5, .bool (!sm)] 64 (0, 0)) := by rw [hw5]; exact setCell_head h4 0 _
      have hc5 : Chg (fun k => k = r) w4 w5 := by rw [hw5]; exact Chg.setCell _ _ _ _ rfl
      refine ⟨hh5, fun h6 c6 => ?_⟩
      have hl : (pushT front L s).length = L.length + 1 := pushT_len front L s
      obtain ⟨av, cv, e, harg⟩ := texts_of_slice s4
      cases e
      obtain ⟨⟨F', g1, g2⟩, g3⟩ := h.step b4 (w2 := w6) (L' := pushT front L s) (sm' := sm && keeps ((L.length : Int) + 1) s) (a' := a5) (cap' := c5) (by rw [hl]; exact h6) (hc5.trans c6 fun k hk _ => hk) (by rw [hl]; exact harg) (by omega) (fun b o h0 e => by
        subst e
        have := (s4.block_lt (k := b) rfl).1
        exact ⟨fun e => by have := heap_lt h.head; omega, .inr this⟩)
      exact ⟨⟨F', a5, c5, g1, g2⟩, g3⟩)
    have hlt := heap_lt h.head
    cases front with
    | true =>
      obtain ⟨v1, w1, r1, s1, b1⟩ := append_text1 (xs := []) (SliceIs.nil w w.heap.size 9) (Nat.le_refl _) s (by omega)
      rw [List.nil_append, Nat.zero_add] at s1
      obtain ⟨a1, c1, rfl, _⟩ := s1.arg
      have hrow1 := (h.below b1).row
      obtain ⟨v2, w2, r2, s2, b2⟩ := append_texts (a := a) (c := cap) (xs := [s]) (ys := L) (m := L.length) s1 b1.size rfl hrow1.2 (by omega)
      rw [Nat.add_comm 1 L.length] at s2
      obtain ⟨a2, c2, rfl, _⟩ := s2.arg
      have b12 := b1.trans b2
      obtain ⟨w3, hw3⟩ : ∃ w3, w3 = w2.setCell ⟨r, 0, none⟩ (.slice a2 (L.length + 1) c2) := ⟨_, rfl⟩
      have hE3 := fun w6 => HEnd.out w2 w3 w6 a2 c2 b12 s2 hw3
      have HSn := Lib.hid (seen_any (hE3 w).1 s)
      have x1 := cell_in (h.below b1).head (i := 0) rfl
      have x2 := cell_in (h.below b12).head (i := 0) rfl
      have f2 := frozen_in (h.below b12).head 0
      have HE3 := Lib.hid hE3
      have R1 := Lib.hid r1
      have R2 := Lib.hid r2
      have HW3 := Lib.hid hw3
      clear h r1 r2 s1 s2 b1 b2 b12 hrow1 hw3 hE3 e1 e2 e3 hlim
      go_enter Tryz.func23, Tryz.ntmps23
      go_upto_region 8 with (at_builtin; refine wpList_append_run rfl rfl R1.out ?_)
      go_wp2_with (at_builtin; refine wpList_append_run rfl rfl R2.out ?_)
      rw [← HW3.out]
      refine HSn.out.mono ?_
      rintro e w6 ⟨⟨vv, rfl⟩, h6, c6⟩
      have HF := Lib.hid ((HE3.out w6).2 h6 c6)
      clear h6 c6
      go_wp2_with fail
      go_ret
      exact ⟨rfl, HF.out⟩
    | false =>
      obtain ⟨v1, w1, r1, s1, b1⟩ := append_texts (a := a) (c := cap) (xs := []) (ys := L) (m := L.length) (SliceIs.nil w w.heap.size 9) (Nat.le_refl _) rfl h.row.2 (by omega)
      rw [List.nil_append, Nat.zero_add] at s1
      obtain ⟨a1, c1, rfl, _⟩ := s1.arg
      obtain ⟨v2, w2, r2, s2, b2⟩ := append_text1 s1 b1.size s (by omega)
      obtain ⟨a2, c2, rfl, _⟩ := s2.arg
      have b12 := b1.trans b2
      obtain ⟨w3, hw3⟩ : ∃ w3, w3 = w2.setCell ⟨r, 0, none⟩ (.slice a2 (L.length + 1) c2) := ⟨_, rfl⟩
      have hE3 := fun w6 => HEnd.out w2 w3 w6 a2 c2 b12 s2 hw3
      have HSn := Lib.hid (seen_any (hE3 w).1 s)
      have x2 := cell_in (h.below b12).head (i := 0) rfl
      have f2 := frozen_in (h.below b12).head 0
      have HE3 := Lib.hid hE3
      have R1 := Lib.hid r1
      have R2 := Lib.hid r2
      have HW3 := Lib.hid hw3
      clear h r1 r2 s1 s2 b1 b2 b12 hw3 hE3 e1 e2 e3 hlim
      go_enter Tryz.func23, Tryz.ntmps23
      go_upto_region 9 with (at_builtin; refine wpList_append_run rfl rfl R1.out ?_)
      go_wp2_with (at_builtin; refine wpList_append_run rfl rfl R2.out ?_)
      rw [← HW3.out]
      refine HSn.out.mono ?_
      rintro e w6 ⟨⟨vv, rfl⟩, h6, c6⟩
      have HF := Lib.hid ((HE3.out w6).2 h6 c6)
      clear h6 c6
      go_wp2_with fail
      go_ret
      exact ⟨rfl, HF.out⟩
end
end Go.Proofs.YtlecnlnpgghmbaaGreatDoor

/- The document's list: Pop, Set. -/
namespace Go.Proofs.YtlecnlnpgghmbaaGreatDoor
set_option linter.unusedVariables false
set_option linter.unusedSimpArgs false
open Go.RowKit
theorem ArgRow.drop {w : World} {b o n cap : Nat} {L : List ByteArray} (h : ArgRow w (some ⟨b, o, none⟩) n cap fun i => .string (L.getD i ByteArray.empty)) (k : Nat) : ArgRow w (some ⟨b, o + k, none⟩) (n - k) (cap - k) fun i => .string ((L.drop k).getD i ByteArray.empty) := by
  refine ⟨by have := h.1; omega, ?_⟩
  rcases Nat.lt_or_ge k n with hk | hk
  · obtain ⟨b', o', e, hc⟩ := h.2.resolve_left (by omega)
    cases e
    refine .inr ⟨b, o + k, rfl, fun i hi => ?_⟩
    rw [show o + k + i = o + (k + i) by omega, hc (k + i) (by omega)]
    simp [List.getD, List.getElem?_drop]
  · exact .inl (by omega)
theorem ArgRow.take {w : World} {a : Option Addr} {n cap : Nat} {L : List ByteArray} (h : ArgRow w a n cap fun i => .string (L.getD i ByteArray.empty)) {k : Nat} (hk : k ≤ n) : ArgRow w a k cap fun i => .string ((L.take k).getD i ByteArray.empty) := by
  refine ⟨by have := h.1; omega, ?_⟩
  rcases h.2 with h0 | ⟨b, o, e, hc⟩
  · exact .inl (by omega)
  · refine .inr ⟨b, o, e, fun i hi => ?_⟩
    rw [hc i (by omega)]
    simp [List.getD, List.getElem?_take, hi]
section
variable {w : World} {r : Nat} {F : Nat → Prop} {L : List ByteArray} {sm : Bool} {a : Option Addr} {cap : Nat}
set_option maxHeartbeats 800000 in
set_option maxRecDepth 100000 in
theorem refPopNone (h : RefL w r F [] sm a cap) (front : Bool) :
    Calls Tryz.prog 25 #[pv r, .bool front] w fun e w' => e = .returned (.tuple #[.string ByteArray.empty, .bool false]) ∧ w = w' := by
  have HL := Lib.hid (refLenL h)
  clear h
  go_enter Tryz.func25, Tryz.ntmps25
  go_wp2_with fail
  refine HL.out.mono ?_
  rintro e w' ⟨rfl, rfl⟩
  go_wp2_with fail
  go_ret2
  exact ⟨rfl, rfl⟩
set_option maxHeartbeats 1600000 in
set_option maxRecDepth 100000 in
theorem refPopL (h : RefL w r F L sm a cap) (front : Bool) (hne : 0 < L.length) :
    Calls Tryz.prog 25 #[pv r, .bool front] w fun e w' => e = .returned (.tuple #[.string (L.getD (popN front L) ByteArray.empty), .bool true]) ∧ (∃ F' a' cap', RefL w' r F' (L.take (popN front L) ++ L.drop (popN front L + 1)) sm a' cap' ∧ Fresh w F F') ∧ Chg F w w' := by
  have HL := Lib.hid (refLenL h)
  have hf := h.few
  have c0 := cell_in h.head (i := 0) rfl
  have f0 := frozen_in h.head 0
  obtain ⟨b, o, rfl, hcl⟩ := h.row.2.resolve_left (by omega)
  have hcap := h.row.1
  have HEnd := Lib.hid (show ∀ (w2 : World) (L' : List ByteArray) (o' cap' : Nat), w2 = w.setCell ⟨r, 0, none⟩ (.slice (some ⟨b, o', none⟩) L'.length cap') → L'.length ≤ L.length → ArgRow w (some ⟨b, o', none⟩) L'.length cap' (fun i => .string (L'.getD i ByteArray.empty)) →
      (∃ F' a' cap', RefL w2 r F' L' sm a' cap' ∧ Fresh w F F') ∧ Chg F w w2 from fun w2 L' o' cap' hw hle hr => by
    obtain ⟨⟨F', g1, g2⟩, g3⟩ := h.step (Below.refl _ _) (w2 := w2) (L' := L') (sm' := sm) (a' := some ⟨b, o', none⟩) (cap' := cap') (by rw [hw]; exact setCell_head h.head 0 _) (by rw [hw]; exact Chg.setCell _ _ _ _ rfl) hr (by omega) (fun b' o2 h0 e => by
      cases e
      exact ⟨fun er => h.off ⟨hne, b, o, rfl, er.symm⟩, .inl ((h.all b).2 (.inr ⟨hne, b, o, rfl, rfl⟩))⟩)
    exact ⟨⟨F', _, cap', g1, g2⟩, g3⟩)
  have hn0 : (((L.length : Int)) == 0) = false := by rw [beq_eq_false_iff_ne]; omega
  have hn9 : L.length ≤ 1000000000 := by omega
  cases front with
  | true =>
    have hy : w.cell? ⟨b, o, none⟩ = some (.string (L.getD 0 ByteArray.empty)) := by have := hcl 0 hne; rwa [Nat.add_zero] at this
    have e1 : L.take (popN true L) ++ L.drop (popN true L + 1) = L.drop 1 := by simp [popN]
    have e2 : popN true L = 0 := rfl
    rw [e1, e2]
    have hdl : (L.drop 1).length = L.length - 1 := by simp
    have hdr := h.row.drop 1
    by_cases h1 : cap = 1
    · subst h1
      obtain ⟨w2, hw2⟩ : ∃ w2, w2 = w.setCell ⟨r, 0, none⟩ (.slice (some ⟨b, o, none⟩) 0 0) := ⟨_, rfl⟩
      have HE := Lib.hid (HEnd.out w2 (L.drop 1) o 0 (by rw [hdl, show L.length - 1 = 0 by omega]; exact hw2) (by omega) ⟨by rw [hdl]; omega, .inl (by rw [hdl]; omega)⟩)
      have HW := Lib.hid hw2
      clear h hcl hdr hw2 e1 e2
      generalize L.getD 0 ByteArray.empty = y at *
      go_enter Tryz.func25, Tryz.ntmps25
      go_wp2_with fail
      refine HL.out.mono ?_
      rintro e w' ⟨rfl, rfl⟩
      go_wp2_with fail
      rw [← HW.out]
      go_ret2
      exact ⟨rfl, HE.out⟩
    · obtain ⟨w2, hw2⟩ : ∃ w2, w2 = w.setCell ⟨r, 0, none⟩ (.slice (some ⟨b, o + 1, none⟩) (L.length - 1) (cap - 1)) := ⟨_, rfl⟩
      have HE := Lib.hid (HEnd.out w2 (L.drop 1) (o + 1) (cap - 1) (by rw [hdl]; exact hw2) (by omega) (by rw [hdl]; exact hdr))
      have HW := Lib.hid hw2
      clear h hcl hdr hw2 e1 e2
      generalize L.getD 0 ByteArray.empty = y at *
      go_enter Tryz.func25, Tryz.ntmps25
      go_wp2_with fail
      refine HL.out.mono ?_
      rintro e w' ⟨rfl, rfl⟩
      go_wp2_with fail
      rw [← HW.out]
      go_ret2
      exact ⟨rfl, HE.out⟩
  | false =>
    have e2 : popN false L = L.length - 1 := rfl
    have hy : w.cell? ⟨b, o + (L.length - 1), none⟩ = some (.string (L.getD (L.length - 1) ByteArray.empty)) := hcl _ (by omega)
    have e1 : L.take (L.length - 1) ++ L.drop (L.length - 1 + 1) = L.take (L.length - 1) := by rw [List.drop_of_length_le (by omega), List.append_nil]
    rw [e2, e1]
    have htl : (L.take (L.length - 1)).length = L.length - 1 := by simp
    have htr := h.row.take (k := L.length - 1) (by omega)
    obtain ⟨w2, hw2⟩ : ∃ w2, w2 = w.setCell ⟨r, 0, none⟩ (.slice (some ⟨b, o, none⟩) (L.length - 1) cap) := ⟨_, rfl⟩
    have HE := Lib.hid (HEnd.out w2 (L.take (L.length - 1)) o cap (by rw [htl]; exact hw2) (by omega) (by rw [htl]; exact htr))
    have HW := Lib.hid hw2
    clear h hcl htr hw2 e1 e2
    generalize L.getD (L.length - 1) ByteArray.empty = y at *
    go_enter Tryz.func25, Tryz.ntmps25
    go_wp2_with fail
    refine HL.out.mono ?_
    rintro e w' ⟨rfl, rfl⟩
    go_wp2_with fail
    rw [← HW.out]
    go_ret2
    exact ⟨rfl, HE.out⟩
set_option maxHeartbeats 3200000 in
set_option maxRecDepth 100000 in
theorem refSetL (h : RefL w r F L sm a cap) (x : Int) (hx : -9223372036854775808 ≤ x ∧ x ≤ 9223372036854775807) (s : ByteArray) (hs : s.size ≤ 9000000000000000000) :
    Calls Tryz.prog 27 #[pv r, .int .i64 x, .string s] w fun e w' => e = .returned (.int .i64 (setQ L x s).1) ∧ (∃ F' a' cap', RefL w' r F' (setQ L x s).2 (setS L x s sm) a' cap' ∧ Fresh w F F') ∧ Chg F w w' := by
  have HP := Lib.hid (refPlaceL h x hx)
  have hf := h.few
  have hn9 : L.length ≤ 1000000000 := by omega
  have HSame := Lib.hid (show (∃ F' a' cap', RefL w r F' L sm a' cap' ∧ Fresh w F F') ∧ Chg F w w from ⟨⟨F, a, cap, h, fun k hk => .inl hk⟩, Chg.refl _ _⟩)
  by_cases hb : qplB L.length x = true
  · by_cases hs2 : s.size ≤ 65536
    · have g1 : decide (65536 < s.size) = false := decide_eq_false (by omega)
      have g2 : decide ((65536 : Int) < (s.size : Int)) = false := decide_eq_false (by omega)
      have hp : 0 ≤ qplN L.length x ∧ qplN L.length x < L.length := by
        unfold qplB at hb
        simpa using hb
      obtain ⟨i, hi⟩ : ∃ i : Nat, qplN L.length x = i := ⟨(qplN L.length x).toNat, by omega⟩
      have hiL : i < L.length := by omega
      have e1 : setQ L x s = (0, L.take i ++ [s] ++ L.drop (i + 1)) := by
        unfold setQ
        rw [hb, if_neg (by simp), if_neg (by omega), hi, Int.toNat_natCast]
      have e2 : setS L x s sm = (sm && keeps (L.length : Int) s) := by unfold setS; rw [e1, if_pos rfl]
      rw [e2, e1]
      rw [hb, hi] at HP
      obtain ⟨b, o, rfl, _⟩ := h.row.2.resolve_left (by omega)
      have hcap := h.row.1
      have hlt := heap_lt h.head
      -- the three appends
      have ht := h.row.take (k := i) (by omega)
      obtain ⟨v1, w1, r1, s1, b1⟩ := append_texts (a := some ⟨b, o, none⟩) (c := cap) (xs := []) (ys := L.take i) (m := i) (SliceIs.nil w w.heap.size 9) (Nat.le_refl _) (by rw [List.length_take]; omega) ht.2 (by omega)
      rw [List.nil_append, Nat.zero_add] at s1
      obtain ⟨a1, c1, rfl, _⟩ := s1.arg
      obtain ⟨v2, w2, r2, s2, b2⟩ := append_text1 s1 b1.size s (by omega)
      obtain ⟨a2, c2, rfl, _⟩ := s2.arg
      have b12 := b1.trans b2
      have hd2 := ((h.below b12).row).drop (i + 1)
      have hdl : (L.drop (i + 1)).length = L.length - (i + 1) := by rw [List.length_drop]
      have HFin := Lib.hid (show ∀ (w3 w4 w5 : World) (a3 : Option Addr) (c3 : Nat), Below w.heap.size w w3 → SliceIs w3 w.heap.size 9 (.slice a3 L.length c3) L.length ((L.take i ++ [s] ++ L.drop (i + 1)).map strV) → w4 = w3.setCell ⟨r, 0, none⟩ (.slice a3 L.length c3) →
          w4.heap[r]? = some (.cells #[.slice a3 L.length c3, .bool (!sm)] 64 (0, 0)) ∧ (w5.heap[r]? = some (.cells #[.slice a3 L.length c3, .bool (!(sm && keeps (L.length : Int) s))] 64 (0, 0)) → Chg (fun k => k = r) w4 w5 →
            (∃ F' a' cap', RefL w5 r F' (L.take i ++ [s] ++ L.drop (i + 1)) (sm && keeps (L.length : Int) s) a' cap' ∧ Fresh w F F') ∧ Chg F w w5) from fun w3 w4 w5 a3 c3 b3 s3 hw4 => by
        have h3 := (h.below b3).head
        have hh4 : w4.heap[r]? = some (.cells #[.slice a3 L.length c3, .bool (!sm)] 64 (0, 0)) := by rw [hw4]; exact setCell_head h3 0 _
        have hc4 : Chg (fun k => k = r) w3 w4 := by rw [hw4]; exact Chg.setCell _ _ _ _ rfl
        refine ⟨hh4, fun h5 c5 => ?_⟩
        have hl := set_len (s := s) hiL
        obtain ⟨av, cv, e, harg⟩ := texts_of_slice s3
        cases e
        obtain ⟨⟨F', g1, g2⟩, g3⟩ := h.step b3 (w2 := w5) (L' := L.take i ++ [s] ++ L.drop (i + 1)) (sm' := sm && keeps (L.length : Int) s) (a' := a3) (cap' := c3) (by rw [hl]; exact h5) (hc4.trans c5 fun k hk _ => hk) (by rw [hl]; exact harg) (by omega) (fun b o h0 e => by
          subst e
          have := (s3.block_lt (k := b) rfl).1
          exact ⟨fun e => by omega, .inr this⟩)
        exact ⟨⟨F', a3, c3, g1, g2⟩, g3⟩)
      have x0 := cell_in h.head (i := 0) rfl
      have x2 := cell_in (h.below b12).head (i := 0) rfl
      have R1 := Lib.hid r1
      have R2 := Lib.hid r2
      have HB12 := Lib.hid (And.intro b12 (And.intro b1 (h.below b12)))
      by_cases hc : cap = i + 1
      · have hz : L.drop (i + 1) = [] := List.drop_of_length_le (by omega)
        obtain ⟨v3, w3, r3, s3, b3⟩ := append_texts (a := some ⟨b, o, none⟩) (c := 0) (ys := []) (m := 0) s2 b12.size rfl (.inl rfl) (by omega)
        have hLi : L.length = i + 1 := by omega
        have s3' : SliceIs w3 w.heap.size 9 v3 L.length ((L.take i ++ [s] ++ L.drop (i + 1)).map strV) := by rw [hz, hLi]; exact s3
        obtain ⟨a3, c3, rfl, _⟩ := s3'.arg
        have b123 := b12.trans b3
        obtain ⟨w4, hw4⟩ : ∃ w4, w4 = w3.setCell ⟨r, 0, none⟩ (.slice a3 L.length c3) := ⟨_, rfl⟩
        have hF := fun w5 => HFin.out w3 w4 w5 a3 c3 b123 s3' hw4
        have HSn := Lib.hid (seen_any (hF w).1 s)
        have x3 := cell_in (h.below b123).head (i := 0) rfl
        have f3 := frozen_in (h.below b123).head 0
        have HF := Lib.hid hF
        have R3 := Lib.hid r3
        have HW4 := Lib.hid hw4
        subst hc
        have hz0 : L.length - (i + 1) = 0 := by omega
        clear h r1 r2 r3 s1 s2 s3 s3' b1 b2 b3 b12 b123 hd2 hdl ht hw4 hF e1 e2 hi hp hz hb hs2 hLi
        go_enter Tryz.func27, Tryz.ntmps27
        go_wp2_with fail
        refine HP.out.mono ?_
        rintro e w' ⟨rfl, rfl⟩
        go_upto_region 10 with (at_builtin; refine wpList_append_run rfl rfl R1.out ?_)
        go_upto_region 11 with (at_builtin; refine wpList_append_run rfl rfl R2.out ?_)
        go_wp2_with (at_builtin; refine wpList_append_run rfl rfl R3.out ?_)
        rw [← HW4.out]
        refine HSn.out.mono ?_
        rintro e w5 ⟨⟨vv, rfl⟩, h5, c5⟩
        have HE := Lib.hid ((HF.out w5).2 h5 c5)
        clear h5 c5
        go_wp2_with fail
        go_ret
        exact ⟨rfl, HE.out⟩
      · obtain ⟨v3, w3, r3, s3, b3⟩ := append_texts (a := some ⟨b, o + (i + 1), none⟩) (c := cap - (i + 1)) (ys := L.drop (i + 1)) (m := L.length - (i + 1)) s2 b12.size hdl hd2.2 (by omega)
        rw [show i + 1 + (L.length - (i + 1)) = L.length by omega] at s3
        obtain ⟨a3, c3, rfl, _⟩ := s3.arg
        have b123 := b12.trans b3
        obtain ⟨w4, hw4⟩ : ∃ w4, w4 = w3.setCell ⟨r, 0, none⟩ (.slice a3 L.length c3) := ⟨_, rfl⟩
        have hF := fun w5 => HFin.out w3 w4 w5 a3 c3 b123 s3 hw4
        have HSn := Lib.hid (seen_any (hF w).1 s)
        have x3 := cell_in (h.below b123).head (i := 0) rfl
        have f3 := frozen_in (h.below b123).head 0
        have HF := Lib.hid hF
        have R3 := Lib.hid r3
        have HW4 := Lib.hid hw4
        clear h r1 r2 r3 s1 s2 s3 b1 b2 b3 b12 b123 hd2 hdl ht hw4 hF e1 e2 hi hp hb hs2
        go_enter Tryz.func27, Tryz.ntmps27
        go_wp2_with fail
        refine HP.out.mono ?_
        rintro e w' ⟨rfl, rfl⟩
        go_upto_region 10 with (at_builtin; refine wpList_append_run rfl rfl R1.out ?_)
        go_upto_region 11 with (at_builtin; refine wpList_append_run rfl rfl R2.out ?_)
        go_wp2_with (at_builtin; refine wpList_append_run rfl rfl R3.out ?_)
        rw [← HW4.out]
        refine HSn.out.mono ?_
        rintro e w5 ⟨⟨vv, rfl⟩, h5, c5⟩
        have HE := Lib.hid ((HF.out w5).2 h5 c5)
        clear h5 c5
        go_wp2_with fail
        go_ret
        exact ⟨rfl, HE.out⟩
    · have g1 : decide (65536 < s.size) = true := decide_eq_true (by omega)
      have g2 : decide ((65536 : Int) < (s.size : Int)) = true := decide_eq_true (by omega)
      have e1 : setQ L x s = (3, L) := by unfold setQ; rw [hb, if_neg (by simp), if_pos (by omega)]
      have e2 : setS L x s sm = sm := by unfold setS; rw [e1, if_neg (by simp)]
      rw [e2, e1]
      rw [hb] at HP
      clear h e1 e2 hb
      generalize qplN L.length x = p at *
      go_enter Tryz.func27, Tryz.ntmps27
      go_wp2_with fail
      refine HP.out.mono ?_
      rintro e w' ⟨rfl, rfl⟩
      go_wp2_with fail
      go_ret
      exact ⟨rfl, HSame.out⟩
  · have hb := Bool.eq_false_iff.2 hb
    have e1 : setQ L x s = (6, L) := by unfold setQ; rw [if_pos hb]
    have e2 : setS L x s sm = sm := by unfold setS; rw [e1, if_neg (by simp)]
    rw [e2, e1]
    rw [hb] at HP
    clear h e1 e2 hb
    generalize qplN L.length x = p at *
    go_enter Tryz.func27, Tryz.ntmps27
    go_wp2_with fail
    refine HP.out.mono ?_
    rintro e w' ⟨rfl, rfl⟩
    go_wp2_with fail
    go_ret
    exact ⟨rfl, HSame.out⟩
end
end Go.Proofs.YtlecnlnpgghmbaaGreatDoor

/- The document's list: Remove. (Printed by gen_rfl5.py.) -/
namespace Go.Proofs.YtlecnlnpgghmbaaGreatDoor
set_option linter.unusedVariables false
set_option linter.unusedSimpArgs false
open Go.RowKit
theorem remF_len_le (s : ByteArray) (lo hi : Nat) : ∀ (L : List ByteArray) (q : Nat), (remF s lo hi q L).length ≤ L.length
  | [], q => by simp [remF]
  | x :: L, q => by
    have h1 := remF_len_le s lo hi L q
    have h2 := remF_len_le s lo hi L (q + 1)
    rw [remF]
    split
    · split <;> simp <;> omega
    · simp; omega
theorem plcF_take_le (s : ByteArray) (zs : List ByteArray) (j : Nat) : (plcF s 0 (zs.take j)).length ≤ (plcF s 0 zs).length := by
  have key : ∀ (A B : List ByteArray) (k : Nat), (plcF s k A).length ≤ (plcF s k (A ++ B)).length := by
    intro A
    induction A with
    | nil => intro B k; simp [plcF]
    | cons y A ih =>
      intro B k
      rw [List.cons_append]
      unfold plcF
      have := ih B (k + 1)
      split <;> simp <;> omega
  have := key (zs.take j) (zs.drop j) 0
  rwa [List.take_append_drop] at this
set_option maxHeartbeats 6400000 in
set_option maxRecDepth 100000 in
theorem refRemoveL {w : World} {r : Nat} {F : Nat → Prop} {L : List ByteArray} {sm : Bool} {a : Option Addr} {cap : Nat} (h : RefL w r F L sm a cap) (c : Int) (hc : -9223372036854775808 ≤ c ∧ c ≤ 9223372036854775807) (s : ByteArray) :
    Calls Tryz.prog 31 #[pv r, .int .i64 c, .string s] w fun e w' => e = .returned (.int .i64 ((goneP L c s).length : Nat)) ∧ (∃ F' a' cap', RefL w' r F' (remL L c s) sm a' cap' ∧ Fresh w F F') ∧ Chg F w w' := by
  have hf := h.few
  have HH := Lib.hid h
  have HA := Lib.hid h.row
  have HHd := Lib.hid h.head
  have hlt0 := heap_lt h.head
  obtain ⟨N, hN⟩ : ∃ N, N = L.length := ⟨_, rfl⟩
  obtain ⟨m, hm⟩ : ∃ m, m = (plcF s 0 L).length := ⟨_, rfl⟩
  have hmn : m ≤ N := by rw [hm, hN]; exact plcF_len s L 0
  have hrem : remL L c s = remF s (rmLo m c) (rmHi m c) 0 L := by unfold remL; rw [← hm]
  have hgl := goneP_length L c s
  rw [← hm] at hgl
  rw [hrem]
  have c0 : w.cell? ⟨r, 0, none⟩ = some (.slice a N cap) := by rw [hN]; exact cell_in h.head (i := 0) rfl
  have HN := Lib.hid hN
  have Hm := Lib.hid hm
  rw [← hN] at hf
  clear h hrem hm hN
  have hcase : ((c = 0 ∨ (0 < c ∧ ¬ c < (m : Int)) ∨ (c < 0 ∧ ¬ -(m : Int) < c)) ∧ rmLo m c = 0 ∧ rmHi m c = m) ∨ (0 < c ∧ c < (m : Int) ∧ rmLo m c = 0 ∧ rmHi m c = c.toNat) ∨ (c < 0 ∧ -(m : Int) < c ∧ rmLo m c = ((m : Int) + c).toNat ∧ rmHi m c = m) := by
    unfold rmLo rmHi
    by_cases h1 : 0 < c
    · by_cases h2 : c < (m : Int)
      · exact .inr (.inl ⟨h1, h2, if_neg (by omega), if_pos ⟨h1, h2⟩⟩)
      · exact .inl ⟨.inr (.inl ⟨h1, h2⟩), if_neg (by omega), if_neg (by omega)⟩
    · by_cases h2 : c < 0
      · by_cases h3 : -(m : Int) < c
        · exact .inr (.inr ⟨h2, h3, if_pos ⟨h2, h3⟩, if_neg (by omega)⟩)
        · exact .inl ⟨.inr (.inr ⟨h2, h3⟩), if_neg (by omega), if_neg (by omega)⟩
      · exact .inl ⟨.inl (by omega), if_neg (by omega), if_neg (by omega)⟩
  rcases hcase with ⟨h1, h2, h3⟩ | ⟨h1, h2, h3, h4⟩ | ⟨h1, h2, h3, h4⟩
  · rw [h2, h3] at hgl ⊢
    rw [show (((goneP L c s).length : Nat) : Int) = (m : Int) from by omega]
    clear hgl h2 h3
    rcases h1 with rfl | ⟨h1, h1'⟩ | ⟨h1, h1'⟩
    case' inr.inl =>
      have g1 : decide (0 < c) = true := decide_eq_true (by omega)
      have g2 : decide (c < (m : Int)) = false := decide_eq_false (by omega)
      have g3 : decide (c < 0) = false := decide_eq_false (by omega)
    case' inr.inr =>
      have g1 : decide (0 < c) = false := decide_eq_false (by omega)
      have g2 : decide (c < 0) = true := decide_eq_true (by omega)
      have g3 : decide (-(m : Int) < c) = false := decide_eq_false (by omega)
    all_goals
      go_enter Tryz.func31, Tryz.ntmps31
      go_wp2_with fail
      go_loop [7, 8] (fun q i => ∃ k : Nat, k ≤ N ∧ i = .int .i64 k ∧ q = .int .i64 ((plcF s 0 (L.take k)).length : Nat)) (fun _ i => N - (intOf i).toNat)
      case atStart => exact ⟨0, Nat.zero_le _, rfl, by simp [plcF]⟩
      case round =>
        obtain ⟨k, hk, rfl, rfl⟩ := hrel
        have hpk := plcF_len s (L.take k) 0
        rw [List.length_take] at hpk
        by_cases hlt : k < N
        · obtain ⟨b, o, hb, hcl⟩ := HA.out.2.resolve_left (by have := HN.out; omega)
          subst hb
          have hkl : k < L.length := by rw [← HN.out]; exact hlt
          have hcell : w.cell? ⟨b, o + k, none⟩ = some (.string (L.getD k ByteArray.empty)) := hcl k hkl
          have htk : L.take (k + 1) = L.take k ++ [L.getD k ByteArray.empty] := by rw [List.take_succ_eq_append_getElem hkl]; simp [List.getD, hkl]
          have hsn := plcF_snoc s (L.take k) 0 (L.getD k ByteArray.empty)
          rw [← htk] at hsn
          clear hcl htk
          generalize L.getD k ByteArray.empty = y at *
          by_cases hys : y = s
          · have hq : (y.toList == s.toList) = true := by rw [hys]; exact beq_self_eq_true _
            rw [if_pos hys] at hsn
            have HN1 := Lib.hid (show (plcF s 0 (L.take (k + 1))).length = (plcF s 0 (L.take k)).length + 1 by rw [hsn]; simp)
            clear hsn hys
            generalize (plcF s 0 (L.take k)).length = q at *
            go_wp2_with fail
            go_round
            case rel => exact ⟨k + 1, by omega, by go_num, by rw [HN1.out]; go_num⟩
            case measure => simp [intOf]; omega
          · have hq : (y.toList == s.toList) = false := by
              rw [beq_eq_false_iff_ne, ne_eq, ByteArray.toList_eq, ByteArray.toList_eq]
              exact fun e => hys (ByteArray.ext (Array.toList_inj.1 e))
            rw [if_neg hys] at hsn
            have HN1 := Lib.hid (show (plcF s 0 (L.take (k + 1))).length = (plcF s 0 (L.take k)).length by rw [hsn])
            clear hsn hys
            generalize (plcF s 0 (L.take k)).length = q at *
            go_wp2_with fail
            go_round
            case rel => exact ⟨k + 1, by omega, by go_num, by rw [HN1.out]⟩
            case measure => simp [intOf]; omega
        · obtain rfl : k = N := by omega
          rw [List.take_of_length_le (by rw [← HN.out]; exact Nat.le_refl _), ← Hm.out]
          clear hpk
          go_wp2_with fail
          go_loopw [11, 12, 13] (fun v n i wr => ∃ j : Nat, j ≤ k ∧ i = .int .i64 j ∧ n = .int .i64 ((plcF s 0 (L.take j)).length : Nat) ∧ Hid (SliceIs wr w.heap.size 9 v (remF s 0 m 0 (L.take j)).length ((remF s 0 m 0 (L.take j)).map strV) ∧ Below w.heap.size w wr)) (fun _ _ i _ => k - (intOf i).toNat)
          case atStart => exact ⟨0, Nat.zero_le _, rfl, by simp [plcF], Lib.hid ⟨SliceIs.nil _ _ _, Below.refl _ _⟩⟩
          case round =>
            obtain ⟨j, hj, rfl, rfl, hI⟩ := hrel
            have c0' : wr.cell? ⟨r, 0, none⟩ = some (.slice a k cap) := by rw [HN.out]; exact cell_in ((Chg.of_below (fun _ => False) hI.out.2).keep HHd.out id) (i := 0) rfl
            by_cases hlt : j < k
            · obtain ⟨b, o, hb, hcl⟩ := HA.out.2.resolve_left (by have := HN.out; omega)
              subst hb
              have hjl : j < L.length := by rw [← HN.out]; exact hlt
              have hcell : wr.cell? ⟨b, o + j, none⟩ = some (.string (L.getD j ByteArray.empty)) := by
                have := hcl j hjl
                rw [hI.out.2.cell (World.block_lt_of_cell? w _ this)]
                exact this
              have htk : L.take (j + 1) = L.take j ++ [L.getD j ByteArray.empty] := by rw [List.take_succ_eq_append_getElem hjl]; simp [List.getD, hjl]
              have hsn := plcF_snoc s (L.take j) 0 (L.getD j ByteArray.empty)
              have hrm := remF_snoc s 0 m (L.take j) 0 (L.getD j ByteArray.empty)
              rw [← htk] at hsn hrm
              have hle1 := plcF_take_le s L (j + 1)
              rw [← Hm.out] at hle1
              have hpq := plcF_len s (L.take j) 0
              rw [List.length_take] at hpq
              have hRl := remF_len_le s 0 m (L.take j) 0
              rw [List.length_take] at hRl
              clear hcl htk
              obtain ⟨av, cv, rfl, _⟩ := hI.out.1.arg
              generalize L.getD j ByteArray.empty = y at *
              obtain ⟨R, hR⟩ : ∃ R, remF s 0 m 0 (L.take j) = R := ⟨_, rfl⟩
              rw [hR] at hrm hI hRl
              have HRd := Lib.hid hR
              rw [HRd.out]
              clear hR
              by_cases hys : y = s
              · have hq : (y.toList == s.toList) = true := by rw [hys]; exact beq_self_eq_true _
                rw [if_pos hys] at hsn
                have HN1 := Lib.hid (show (plcF s 0 (L.take (j + 1))).length = (plcF s 0 (L.take j)).length + 1 by rw [hsn]; simp)
                rw [HN1.out] at hle1
                by_cases hin : 0 ≤ (plcF s 0 (L.take j)).length ∧ (plcF s 0 (L.take j)).length < m
                · rw [if_pos ⟨hys, by omega, by omega⟩] at hrm
                  have HS := Lib.hid (show SliceIs wr w.heap.size 9 (.slice av R.length cv) (remF s 0 m 0 (L.take (j + 1))).length ((remF s 0 m 0 (L.take (j + 1))).map strV) ∧ Below w.heap.size w wr from by rw [hrm]; exact hI.out)
                  clear hsn hys hrm hI
                  generalize R.length = nR at *
                  generalize (plcF s 0 (L.take j)).length = q at *
                  have ee0 : decide ((q : Int) + 1 ≤ (m : Int)) = true := decide_eq_true (by omega)
                  have ee1 : decide ((q : Int) < (m : Int)) = true := decide_eq_true (by omega)
                  have ee2 : decide (q < m) = true := decide_eq_true (by omega)
                  have ee3 : decide (q + 1 ≤ m) = true := decide_eq_true (by omega)
                  clear hin hle1
                  go_wp2_with fail
                  go_roundw
                  case rel => exact ⟨j + 1, by omega, by go_num, by rw [HN1.out]; go_num, HS⟩
                  case measure => simp [intOf]; omega
                · rw [if_neg (fun h => hin ⟨by omega, by omega⟩)] at hrm
                  have HN2 := Lib.hid (show remF s 0 m 0 (L.take (j + 1)) = R ++ [y] from hrm)
                  obtain ⟨v3, w3, hr, s3, b3⟩ := append_text1 hI.out.1 hI.out.2.size y (by omega)
                  obtain ⟨a3, c3, rfl, _⟩ := s3.arg
                  have HR := Lib.hid hr
                  have HS := Lib.hid (show SliceIs w3 w.heap.size 9 (.slice a3 (R.length + 1) c3) (remF s 0 m 0 (L.take (j + 1))).length ((remF s 0 m 0 (L.take (j + 1))).map strV) ∧ Below w.heap.size w w3 from ⟨by rw [HN2.out, List.length_append, List.length_singleton]; exact s3, hI.out.2.trans b3⟩)
                  clear hsn hys hrm hI hr s3 b3 HN2
                  generalize R.length = nR at *
                  generalize (plcF s 0 (L.take j)).length = q at *
                  have ee0 : decide ((q : Int) + 1 ≤ (m : Int)) = false := decide_eq_false (by omega)
                  have ee1 : decide ((q : Int) < (m : Int)) = false := decide_eq_false (by omega)
                  have ee2 : decide (q < m) = false := decide_eq_false (by omega)
                  have ee3 : decide (q + 1 ≤ m) = false := decide_eq_false (by omega)
                  clear hin hle1
                  go_wp2_with (at_builtin; refine wpList_append_run rfl rfl HR.out ?_)
                  go_roundw
                  case rel => exact ⟨j + 1, by omega, by go_num, by rw [HN1.out]; go_num, HS⟩
                  case measure => simp [intOf]; omega
              · have hq : (y.toList == s.toList) = false := by
                  rw [beq_eq_false_iff_ne, ne_eq, ByteArray.toList_eq, ByteArray.toList_eq]
                  exact fun e => hys (ByteArray.ext (Array.toList_inj.1 e))
                rw [if_neg hys] at hsn
                rw [if_neg (fun h => hys h.1)] at hrm
                have HN1 := Lib.hid (show (plcF s 0 (L.take (j + 1))).length = (plcF s 0 (L.take j)).length by rw [hsn])
                clear hle1
                have HN2 := Lib.hid (show remF s 0 m 0 (L.take (j + 1)) = R ++ [y] from hrm)
                obtain ⟨v3, w3, hr, s3, b3⟩ := append_text1 hI.out.1 hI.out.2.size y (by omega)
                obtain ⟨a3, c3, rfl, _⟩ := s3.arg
                have HR := Lib.hid hr
                have HS := Lib.hid (show SliceIs w3 w.heap.size 9 (.slice a3 (R.length + 1) c3) (remF s 0 m 0 (L.take (j + 1))).length ((remF s 0 m 0 (L.take (j + 1))).map strV) ∧ Below w.heap.size w w3 from ⟨by rw [HN2.out, List.length_append, List.length_singleton]; exact s3, hI.out.2.trans b3⟩)
                clear hsn hys hrm hI hr s3 b3 HN2
                generalize R.length = nR at *
                generalize (plcF s 0 (L.take j)).length = q at *
                go_wp2_with (at_builtin; refine wpList_append_run rfl rfl HR.out ?_)
                go_roundw
                case rel => exact ⟨j + 1, by omega, by go_num, by rw [HN1.out], HS⟩
                case measure => simp [intOf]; omega
            · obtain rfl : j = k := by omega
              rw [List.take_of_length_le (by rw [← HN.out]; exact Nat.le_refl _), ← Hm.out] at *
              obtain ⟨av, cv, rfl, _⟩ := hI.out.1.arg
              have hRl := remF_len_le s 0 m L 0
              obtain ⟨w3, hw3⟩ : ∃ w3, w3 = wr.setCell ⟨r, 0, none⟩ (.slice av (remF s 0 m 0 L).length cv) := ⟨_, rfl⟩
              have hh := (Chg.of_below (fun _ => False) hI.out.2).keep HHd.out id
              have f0' := frozen_in hh 0
              have HE := Lib.hid (show (∃ F' a' cap', RefL w3 r F' (remF s 0 m 0 L) sm a' cap' ∧ Fresh w F F') ∧ Chg F w w3 from by
                obtain ⟨av', cv', e, harg⟩ := texts_of_slice hI.out.1
                cases e
                obtain ⟨⟨F', g1, g2⟩, g3⟩ := HH.out.step hI.out.2 (w2 := w3) (L' := remF s 0 m 0 L) (sm' := sm) (a' := av) (cap' := cv) (by rw [hw3]; exact setCell_head hh 0 _) (by rw [hw3]; exact Chg.setCell _ _ _ _ rfl) harg (by have := HN.out; omega) (fun b o h0 e => by
                  subst e
                  have := (hI.out.1.block_lt (k := b) rfl).1
                  exact ⟨fun e => by omega, .inr this⟩)
                exact ⟨⟨F', av, cv, g1, g2⟩, g3⟩)
              have HW3 := Lib.hid hw3
              clear hI hw3 hh hRl
              generalize (remF s 0 m 0 L).length = nR at *
              go_wp2_with fail
              rw [← HW3.out]
              go_ret
              obtain ⟨⟨F', a', cap', q1, q2⟩, q3⟩ := HE.out
              exact ⟨rfl, ⟨F', ⟨a', cap', q1⟩, q2⟩, q3⟩
  · obtain ⟨hi, rfl⟩ : ∃ hi : Nat, c = (hi : Int) := ⟨c.toNat, by omega⟩
    rw [Int.toNat_natCast] at h4
    rw [h3, h4] at hgl ⊢
    rw [show (((goneP L (hi : Int) s).length : Nat) : Int) = (hi : Int) from by omega]
    have g1 : decide (0 < (hi : Int)) = true := decide_eq_true (by omega)
    have g1' : decide (0 < hi) = true := decide_eq_true (by omega)
    have g2 : decide ((hi : Int) < (m : Int)) = true := decide_eq_true (by omega)
    have g2' : decide (hi < m) = true := decide_eq_true (by omega)
    clear hgl h3 h4
    go_enter Tryz.func31, Tryz.ntmps31
    go_wp2_with fail
    go_loop [7, 8] (fun q i => ∃ k : Nat, k ≤ N ∧ i = .int .i64 k ∧ q = .int .i64 ((plcF s 0 (L.take k)).length : Nat)) (fun _ i => N - (intOf i).toNat)
    case atStart => exact ⟨0, Nat.zero_le _, rfl, by simp [plcF]⟩
    case round =>
      obtain ⟨k, hk, rfl, rfl⟩ := hrel
      have hpk := plcF_len s (L.take k) 0
      rw [List.length_take] at hpk
      by_cases hlt : k < N
      · obtain ⟨b, o, hb, hcl⟩ := HA.out.2.resolve_left (by have := HN.out; omega)
        subst hb
        have hkl : k < L.length := by rw [← HN.out]; exact hlt
        have hcell : w.cell? ⟨b, o + k, none⟩ = some (.string (L.getD k ByteArray.empty)) := hcl k hkl
        have htk : L.take (k + 1) = L.take k ++ [L.getD k ByteArray.empty] := by rw [List.take_succ_eq_append_getElem hkl]; simp [List.getD, hkl]
        have hsn := plcF_snoc s (L.take k) 0 (L.getD k ByteArray.empty)
        rw [← htk] at hsn
        clear hcl htk
        generalize L.getD k ByteArray.empty = y at *
        by_cases hys : y = s
        · have hq : (y.toList == s.toList) = true := by rw [hys]; exact beq_self_eq_true _
          rw [if_pos hys] at hsn
          have HN1 := Lib.hid (show (plcF s 0 (L.take (k + 1))).length = (plcF s 0 (L.take k)).length + 1 by rw [hsn]; simp)
          clear hsn hys
          generalize (plcF s 0 (L.take k)).length = q at *
          go_wp2_with fail
          go_round
          case rel => exact ⟨k + 1, by omega, by go_num, by rw [HN1.out]; go_num⟩
          case measure => simp [intOf]; omega
        · have hq : (y.toList == s.toList) = false := by
            rw [beq_eq_false_iff_ne, ne_eq, ByteArray.toList_eq, ByteArray.toList_eq]
            exact fun e => hys (ByteArray.ext (Array.toList_inj.1 e))
          rw [if_neg hys] at hsn
          have HN1 := Lib.hid (show (plcF s 0 (L.take (k + 1))).length = (plcF s 0 (L.take k)).length by rw [hsn])
          clear hsn hys
          generalize (plcF s 0 (L.take k)).length = q at *
          go_wp2_with fail
          go_round
          case rel => exact ⟨k + 1, by omega, by go_num, by rw [HN1.out]⟩
          case measure => simp [intOf]; omega
      · obtain rfl : k = N := by omega
        rw [List.take_of_length_le (by rw [← HN.out]; exact Nat.le_refl _), ← Hm.out]
        clear hpk
        go_wp2_with fail
        go_loopw [11, 12, 13] (fun v n i wr => ∃ j : Nat, j ≤ k ∧ i = .int .i64 j ∧ n = .int .i64 ((plcF s 0 (L.take j)).length : Nat) ∧ Hid (SliceIs wr w.heap.size 9 v (remF s 0 hi 0 (L.take j)).length ((remF s 0 hi 0 (L.take j)).map strV) ∧ Below w.heap.size w wr)) (fun _ _ i _ => k - (intOf i).toNat)
        case atStart => exact ⟨0, Nat.zero_le _, rfl, by simp [plcF], Lib.hid ⟨SliceIs.nil _ _ _, Below.refl _ _⟩⟩
        case round =>
          obtain ⟨j, hj, rfl, rfl, hI⟩ := hrel
          have c0' : wr.cell? ⟨r, 0, none⟩ = some (.slice a k cap) := by rw [HN.out]; exact cell_in ((Chg.of_below (fun _ => False) hI.out.2).keep HHd.out id) (i := 0) rfl
          by_cases hlt : j < k
          · obtain ⟨b, o, hb, hcl⟩ := HA.out.2.resolve_left (by have := HN.out; omega)
            subst hb
            have hjl : j < L.length := by rw [← HN.out]; exact hlt
            have hcell : wr.cell? ⟨b, o + j, none⟩ = some (.string (L.getD j ByteArray.empty)) := by
              have := hcl j hjl
              rw [hI.out.2.cell (World.block_lt_of_cell? w _ this)]
              exact this
            have htk : L.take (j + 1) = L.take j ++ [L.getD j ByteArray.empty] := by rw [List.take_succ_eq_append_getElem hjl]; simp [List.getD, hjl]
            have hsn := plcF_snoc s (L.take j) 0 (L.getD j ByteArray.empty)
            have hrm := remF_snoc s 0 hi (L.take j) 0 (L.getD j ByteArray.empty)
            rw [← htk] at hsn hrm
            have hle1 := plcF_take_le s L (j + 1)
            rw [← Hm.out] at hle1
            have hpq := plcF_len s (L.take j) 0
            rw [List.length_take] at hpq
            have hRl := remF_len_le s 0 hi (L.take j) 0
            rw [List.length_take] at hRl
            clear hcl htk
            obtain ⟨av, cv, rfl, _⟩ := hI.out.1.arg
            generalize L.getD j ByteArray.empty = y at *
            obtain ⟨R, hR⟩ : ∃ R, remF s 0 hi 0 (L.take j) = R := ⟨_, rfl⟩
            rw [hR] at hrm hI hRl
            have HRd := Lib.hid hR
            rw [HRd.out]
            clear hR
            by_cases hys : y = s
            · have hq : (y.toList == s.toList) = true := by rw [hys]; exact beq_self_eq_true _
              rw [if_pos hys] at hsn
              have HN1 := Lib.hid (show (plcF s 0 (L.take (j + 1))).length = (plcF s 0 (L.take j)).length + 1 by rw [hsn]; simp)
              rw [HN1.out] at hle1
              by_cases hin : 0 ≤ (plcF s 0 (L.take j)).length ∧ (plcF s 0 (L.take j)).length < hi
              · rw [if_pos ⟨hys, by omega, by omega⟩] at hrm
                have HS := Lib.hid (show SliceIs wr w.heap.size 9 (.slice av R.length cv) (remF s 0 hi 0 (L.take (j + 1))).length ((remF s 0 hi 0 (L.take (j + 1))).map strV) ∧ Below w.heap.size w wr from by rw [hrm]; exact hI.out)
                clear hsn hys hrm hI
                generalize R.length = nR at *
                generalize (plcF s 0 (L.take j)).length = q at *
                have ee0 : decide ((q : Int) + 1 ≤ (hi : Int)) = true := decide_eq_true (by omega)
                have ee1 : decide ((q : Int) < (hi : Int)) = true := decide_eq_true (by omega)
                have ee2 : decide (q < hi) = true := decide_eq_true (by omega)
                have ee3 : decide (q + 1 ≤ hi) = true := decide_eq_true (by omega)
                clear hin hle1
                go_wp2_with fail
                go_roundw
                case rel => exact ⟨j + 1, by omega, by go_num, by rw [HN1.out]; go_num, HS⟩
                case measure => simp [intOf]; omega
              · rw [if_neg (fun h => hin ⟨by omega, by omega⟩)] at hrm
                have HN2 := Lib.hid (show remF s 0 hi 0 (L.take (j + 1)) = R ++ [y] from hrm)
                obtain ⟨v3, w3, hr, s3, b3⟩ := append_text1 hI.out.1 hI.out.2.size y (by omega)
                obtain ⟨a3, c3, rfl, _⟩ := s3.arg
                have HR := Lib.hid hr
                have HS := Lib.hid (show SliceIs w3 w.heap.size 9 (.slice a3 (R.length + 1) c3) (remF s 0 hi 0 (L.take (j + 1))).length ((remF s 0 hi 0 (L.take (j + 1))).map strV) ∧ Below w.heap.size w w3 from ⟨by rw [HN2.out, List.length_append, List.length_singleton]; exact s3, hI.out.2.trans b3⟩)
                clear hsn hys hrm hI hr s3 b3 HN2
                generalize R.length = nR at *
                generalize (plcF s 0 (L.take j)).length = q at *
                have ee0 : decide ((q : Int) + 1 ≤ (hi : Int)) = false := decide_eq_false (by omega)
                have ee1 : decide ((q : Int) < (hi : Int)) = false := decide_eq_false (by omega)
                have ee2 : decide (q < hi) = false := decide_eq_false (by omega)
                have ee3 : decide (q + 1 ≤ hi) = false := decide_eq_false (by omega)
                clear hin hle1
                go_wp2_with (at_builtin; refine wpList_append_run rfl rfl HR.out ?_)
                go_roundw
                case rel => exact ⟨j + 1, by omega, by go_num, by rw [HN1.out]; go_num, HS⟩
                case measure => simp [intOf]; omega
            · have hq : (y.toList == s.toList) = false := by
                rw [beq_eq_false_iff_ne, ne_eq, ByteArray.toList_eq, ByteArray.toList_eq]
                exact fun e => hys (ByteArray.ext (Array.toList_inj.1 e))
              rw [if_neg hys] at hsn
              rw [if_neg (fun h => hys h.1)] at hrm
              have HN1 := Lib.hid (show (plcF s 0 (L.take (j + 1))).length = (plcF s 0 (L.take j)).length by rw [hsn])
              clear hle1
              have HN2 := Lib.hid (show remF s 0 hi 0 (L.take (j + 1)) = R ++ [y] from hrm)
              obtain ⟨v3, w3, hr, s3, b3⟩ := append_text1 hI.out.1 hI.out.2.size y (by omega)
              obtain ⟨a3, c3, rfl, _⟩ := s3.arg
              have HR := Lib.hid hr
              have HS := Lib.hid (show SliceIs w3 w.heap.size 9 (.slice a3 (R.length + 1) c3) (remF s 0 hi 0 (L.take (j + 1))).length ((remF s 0 hi 0 (L.take (j + 1))).map strV) ∧ Below w.heap.size w w3 from ⟨by rw [HN2.out, List.length_append, List.length_singleton]; exact s3, hI.out.2.trans b3⟩)
              clear hsn hys hrm hI hr s3 b3 HN2
              generalize R.length = nR at *
              generalize (plcF s 0 (L.take j)).length = q at *
              go_wp2_with (at_builtin; refine wpList_append_run rfl rfl HR.out ?_)
              go_roundw
              case rel => exact ⟨j + 1, by omega, by go_num, by rw [HN1.out], HS⟩
              case measure => simp [intOf]; omega
          · obtain rfl : j = k := by omega
            rw [List.take_of_length_le (by rw [← HN.out]; exact Nat.le_refl _), ← Hm.out] at *
            obtain ⟨av, cv, rfl, _⟩ := hI.out.1.arg
            have hRl := remF_len_le s 0 hi L 0
            obtain ⟨w3, hw3⟩ : ∃ w3, w3 = wr.setCell ⟨r, 0, none⟩ (.slice av (remF s 0 hi 0 L).length cv) := ⟨_, rfl⟩
            have hh := (Chg.of_below (fun _ => False) hI.out.2).keep HHd.out id
            have f0' := frozen_in hh 0
            have HE := Lib.hid (show (∃ F' a' cap', RefL w3 r F' (remF s 0 hi 0 L) sm a' cap' ∧ Fresh w F F') ∧ Chg F w w3 from by
              obtain ⟨av', cv', e, harg⟩ := texts_of_slice hI.out.1
              cases e
              obtain ⟨⟨F', g1, g2⟩, g3⟩ := HH.out.step hI.out.2 (w2 := w3) (L' := remF s 0 hi 0 L) (sm' := sm) (a' := av) (cap' := cv) (by rw [hw3]; exact setCell_head hh 0 _) (by rw [hw3]; exact Chg.setCell _ _ _ _ rfl) harg (by have := HN.out; omega) (fun b o h0 e => by
                subst e
                have := (hI.out.1.block_lt (k := b) rfl).1
                exact ⟨fun e => by omega, .inr this⟩)
              exact ⟨⟨F', av, cv, g1, g2⟩, g3⟩)
            have HW3 := Lib.hid hw3
            clear hI hw3 hh hRl
            generalize (remF s 0 hi 0 L).length = nR at *
            go_wp2_with fail
            rw [← HW3.out]
            go_ret
            obtain ⟨⟨F', a', cap', q1, q2⟩, q3⟩ := HE.out
            exact ⟨rfl, ⟨F', ⟨a', cap', q1⟩, q2⟩, q3⟩
  · obtain ⟨lo, hlo⟩ : ∃ lo : Nat, (m : Int) + c = (lo : Int) := ⟨((m : Int) + c).toNat, by omega⟩
    rw [hlo, Int.toNat_natCast] at h3
    rw [h3, h4] at hgl ⊢
    rw [show (((goneP L c s).length : Nat) : Int) = (m : Int) - (lo : Int) from by omega]
    have g1 : decide (0 < c) = false := decide_eq_false (by omega)
    have g2 : decide (c < 0) = true := decide_eq_true (by omega)
    have g3 : decide (-(m : Int) < c) = true := decide_eq_true (by omega)
    clear hgl h3 h4
    go_enter Tryz.func31, Tryz.ntmps31
    go_wp2_with fail
    go_loop [7, 8] (fun q i => ∃ k : Nat, k ≤ N ∧ i = .int .i64 k ∧ q = .int .i64 ((plcF s 0 (L.take k)).length : Nat)) (fun _ i => N - (intOf i).toNat)
    case atStart => exact ⟨0, Nat.zero_le _, rfl, by simp [plcF]⟩
    case round =>
      obtain ⟨k, hk, rfl, rfl⟩ := hrel
      have hpk := plcF_len s (L.take k) 0
      rw [List.length_take] at hpk
      by_cases hlt : k < N
      · obtain ⟨b, o, hb, hcl⟩ := HA.out.2.resolve_left (by have := HN.out; omega)
        subst hb
        have hkl : k < L.length := by rw [← HN.out]; exact hlt
        have hcell : w.cell? ⟨b, o + k, none⟩ = some (.string (L.getD k ByteArray.empty)) := hcl k hkl
        have htk : L.take (k + 1) = L.take k ++ [L.getD k ByteArray.empty] := by rw [List.take_succ_eq_append_getElem hkl]; simp [List.getD, hkl]
        have hsn := plcF_snoc s (L.take k) 0 (L.getD k ByteArray.empty)
        rw [← htk] at hsn
        clear hcl htk
        generalize L.getD k ByteArray.empty = y at *
        by_cases hys : y = s
        · have hq : (y.toList == s.toList) = true := by rw [hys]; exact beq_self_eq_true _
          rw [if_pos hys] at hsn
          have HN1 := Lib.hid (show (plcF s 0 (L.take (k + 1))).length = (plcF s 0 (L.take k)).length + 1 by rw [hsn]; simp)
          clear hsn hys
          generalize (plcF s 0 (L.take k)).length = q at *
          go_wp2_with fail
          go_round
          case rel => exact ⟨k + 1, by omega, by go_num, by rw [HN1.out]; go_num⟩
          case measure => simp [intOf]; omega
        · have hq : (y.toList == s.toList) = false := by
            rw [beq_eq_false_iff_ne, ne_eq, ByteArray.toList_eq, ByteArray.toList_eq]
            exact fun e => hys (ByteArray.ext (Array.toList_inj.1 e))
          rw [if_neg hys] at hsn
          have HN1 := Lib.hid (show (plcF s 0 (L.take (k + 1))).length = (plcF s 0 (L.take k)).length by rw [hsn])
          clear hsn hys
          generalize (plcF s 0 (L.take k)).length = q at *
          go_wp2_with fail
          go_round
          case rel => exact ⟨k + 1, by omega, by go_num, by rw [HN1.out]⟩
          case measure => simp [intOf]; omega
      · obtain rfl : k = N := by omega
        rw [List.take_of_length_le (by rw [← HN.out]; exact Nat.le_refl _), ← Hm.out]
        clear hpk
        go_wp2_with fail
        go_loopw [11, 12, 13] (fun v n i wr => ∃ j : Nat, j ≤ k ∧ i = .int .i64 j ∧ n = .int .i64 ((plcF s 0 (L.take j)).length : Nat) ∧ Hid (SliceIs wr w.heap.size 9 v (remF s lo m 0 (L.take j)).length ((remF s lo m 0 (L.take j)).map strV) ∧ Below w.heap.size w wr)) (fun _ _ i _ => k - (intOf i).toNat)
        case atStart => exact ⟨0, Nat.zero_le _, rfl, by simp [plcF], Lib.hid ⟨SliceIs.nil _ _ _, Below.refl _ _⟩⟩
        case round =>
          obtain ⟨j, hj, rfl, rfl, hI⟩ := hrel
          have c0' : wr.cell? ⟨r, 0, none⟩ = some (.slice a k cap) := by rw [HN.out]; exact cell_in ((Chg.of_below (fun _ => False) hI.out.2).keep HHd.out id) (i := 0) rfl
          by_cases hlt : j < k
          · obtain ⟨b, o, hb, hcl⟩ := HA.out.2.resolve_left (by have := HN.out; omega)
            subst hb
            have hjl : j < L.length := by rw [← HN.out]; exact hlt
            have hcell : wr.cell? ⟨b, o + j, none⟩ = some (.string (L.getD j ByteArray.empty)) := by
              have := hcl j hjl
              rw [hI.out.2.cell (World.block_lt_of_cell? w _ this)]
              exact this
            have htk : L.take (j + 1) = L.take j ++ [L.getD j ByteArray.empty] := by rw [List.take_succ_eq_append_getElem hjl]; simp [List.getD, hjl]
            have hsn := plcF_snoc s (L.take j) 0 (L.getD j ByteArray.empty)
            have hrm := remF_snoc s lo m (L.take j) 0 (L.getD j ByteArray.empty)
            rw [← htk] at hsn hrm
            have hle1 := plcF_take_le s L (j + 1)
            rw [← Hm.out] at hle1
            have hpq := plcF_len s (L.take j) 0
            rw [List.length_take] at hpq
            have hRl := remF_len_le s lo m (L.take j) 0
            rw [List.length_take] at hRl
            clear hcl htk
            obtain ⟨av, cv, rfl, _⟩ := hI.out.1.arg
            generalize L.getD j ByteArray.empty = y at *
            obtain ⟨R, hR⟩ : ∃ R, remF s lo m 0 (L.take j) = R := ⟨_, rfl⟩
            rw [hR] at hrm hI hRl
            have HRd := Lib.hid hR
            rw [HRd.out]
            clear hR
            by_cases hys : y = s
            · have hq : (y.toList == s.toList) = true := by rw [hys]; exact beq_self_eq_true _
              rw [if_pos hys] at hsn
              have HN1 := Lib.hid (show (plcF s 0 (L.take (j + 1))).length = (plcF s 0 (L.take j)).length + 1 by rw [hsn]; simp)
              rw [HN1.out] at hle1
              by_cases hin : lo ≤ (plcF s 0 (L.take j)).length ∧ (plcF s 0 (L.take j)).length < m
              · rw [if_pos ⟨hys, by omega, by omega⟩] at hrm
                have HS := Lib.hid (show SliceIs wr w.heap.size 9 (.slice av R.length cv) (remF s lo m 0 (L.take (j + 1))).length ((remF s lo m 0 (L.take (j + 1))).map strV) ∧ Below w.heap.size w wr from by rw [hrm]; exact hI.out)
                clear hsn hys hrm hI
                generalize R.length = nR at *
                generalize (plcF s 0 (L.take j)).length = q at *
                have ee0 : decide ((q : Int) + 1 ≤ (m : Int)) = true := decide_eq_true (by omega)
                have ee1 : decide ((q : Int) < (m : Int)) = true := decide_eq_true (by omega)
                have ee2 : decide (q < m) = true := decide_eq_true (by omega)
                have ee3 : decide (q + 1 ≤ m) = true := decide_eq_true (by omega)
                have ee4 : decide ((lo : Int) < (q : Int) + 1) = true := decide_eq_true (by omega)
                have ee5 : decide ((lo : Int) ≤ (q : Int)) = true := decide_eq_true (by omega)
                have ee6 : decide (lo ≤ q) = true := decide_eq_true (by omega)
                have ee7 : decide (lo < q + 1) = true := decide_eq_true (by omega)
                clear hin hle1
                go_wp2_with fail
                go_roundw
                case rel => exact ⟨j + 1, by omega, by go_num, by rw [HN1.out]; go_num, HS⟩
                case measure => simp [intOf]; omega
              · rw [if_neg (fun h => hin ⟨by omega, by omega⟩)] at hrm
                have HN2 := Lib.hid (show remF s lo m 0 (L.take (j + 1)) = R ++ [y] from hrm)
                obtain ⟨v3, w3, hr, s3, b3⟩ := append_text1 hI.out.1 hI.out.2.size y (by omega)
                obtain ⟨a3, c3, rfl, _⟩ := s3.arg
                have HR := Lib.hid hr
                have HS := Lib.hid (show SliceIs w3 w.heap.size 9 (.slice a3 (R.length + 1) c3) (remF s lo m 0 (L.take (j + 1))).length ((remF s lo m 0 (L.take (j + 1))).map strV) ∧ Below w.heap.size w w3 from ⟨by rw [HN2.out, List.length_append, List.length_singleton]; exact s3, hI.out.2.trans b3⟩)
                clear hsn hys hrm hI hr s3 b3 HN2
                generalize R.length = nR at *
                generalize (plcF s 0 (L.take j)).length = q at *
                have ee0 : decide ((q : Int) + 1 ≤ (m : Int)) = true := decide_eq_true (by omega)
                have ee1 : decide ((q : Int) < (m : Int)) = true := decide_eq_true (by omega)
                have ee2 : decide (q < m) = true := decide_eq_true (by omega)
                have ee3 : decide (q + 1 ≤ m) = true := decide_eq_true (by omega)
                have ee4 : decide ((lo : Int) < (q : Int) + 1) = false := decide_eq_false (by omega)
                have ee5 : decide ((lo : Int) ≤ (q : Int)) = false := decide_eq_false (by omega)
                have ee6 : decide (lo ≤ q) = false := decide_eq_false (by omega)
                have ee7 : decide (lo < q + 1) = false := decide_eq_false (by omega)
                clear hin hle1
                go_wp2_with (at_builtin; refine wpList_append_run rfl rfl HR.out ?_)
                go_roundw
                case rel => exact ⟨j + 1, by omega, by go_num, by rw [HN1.out]; go_num, HS⟩
                case measure => simp [intOf]; omega
            · have hq : (y.toList == s.toList) = false := by
                rw [beq_eq_false_iff_ne, ne_eq, ByteArray.toList_eq, ByteArray.toList_eq]
                exact fun e => hys (ByteArray.ext (Array.toList_inj.1 e))
              rw [if_neg hys] at hsn
              rw [if_neg (fun h => hys h.1)] at hrm
              have HN1 := Lib.hid (show (plcF s 0 (L.take (j + 1))).length = (plcF s 0 (L.take j)).length by rw [hsn])
              clear hle1
              have HN2 := Lib.hid (show remF s lo m 0 (L.take (j + 1)) = R ++ [y] from hrm)
              obtain ⟨v3, w3, hr, s3, b3⟩ := append_text1 hI.out.1 hI.out.2.size y (by omega)
              obtain ⟨a3, c3, rfl, _⟩ := s3.arg
              have HR := Lib.hid hr
              have HS := Lib.hid (show SliceIs w3 w.heap.size 9 (.slice a3 (R.length + 1) c3) (remF s lo m 0 (L.take (j + 1))).length ((remF s lo m 0 (L.take (j + 1))).map strV) ∧ Below w.heap.size w w3 from ⟨by rw [HN2.out, List.length_append, List.length_singleton]; exact s3, hI.out.2.trans b3⟩)
              clear hsn hys hrm hI hr s3 b3 HN2
              generalize R.length = nR at *
              generalize (plcF s 0 (L.take j)).length = q at *
              go_wp2_with (at_builtin; refine wpList_append_run rfl rfl HR.out ?_)
              go_roundw
              case rel => exact ⟨j + 1, by omega, by go_num, by rw [HN1.out], HS⟩
              case measure => simp [intOf]; omega
          · obtain rfl : j = k := by omega
            rw [List.take_of_length_le (by rw [← HN.out]; exact Nat.le_refl _), ← Hm.out] at *
            obtain ⟨av, cv, rfl, _⟩ := hI.out.1.arg
            have hRl := remF_len_le s lo m L 0
            obtain ⟨w3, hw3⟩ : ∃ w3, w3 = wr.setCell ⟨r, 0, none⟩ (.slice av (remF s lo m 0 L).length cv) := ⟨_, rfl⟩
            have hh := (Chg.of_below (fun _ => False) hI.out.2).keep HHd.out id
            have f0' := frozen_in hh 0
            have HE := Lib.hid (show (∃ F' a' cap', RefL w3 r F' (remF s lo m 0 L) sm a' cap' ∧ Fresh w F F') ∧ Chg F w w3 from by
              obtain ⟨av', cv', e, harg⟩ := texts_of_slice hI.out.1
              cases e
              obtain ⟨⟨F', g1, g2⟩, g3⟩ := HH.out.step hI.out.2 (w2 := w3) (L' := remF s lo m 0 L) (sm' := sm) (a' := av) (cap' := cv) (by rw [hw3]; exact setCell_head hh 0 _) (by rw [hw3]; exact Chg.setCell _ _ _ _ rfl) harg (by have := HN.out; omega) (fun b o h0 e => by
                subst e
                have := (hI.out.1.block_lt (k := b) rfl).1
                exact ⟨fun e => by omega, .inr this⟩)
              exact ⟨⟨F', av, cv, g1, g2⟩, g3⟩)
            have HW3 := Lib.hid hw3
            clear hI hw3 hh hRl
            generalize (remF s lo m 0 L).length = nR at *
            go_wp2_with fail
            rw [← HW3.out]
            go_ret
            obtain ⟨⟨F', a', cap', q1, q2⟩, q3⟩ := HE.out
            exact ⟨rfl, ⟨F', ⟨a', cap', q1⟩, q2⟩, q3⟩
end Go.Proofs.YtlecnlnpgghmbaaGreatDoor

/- The document's list: Of. -/
namespace Go.Proofs.YtlecnlnpgghmbaaGreatDoor
set_option linter.unusedVariables false
set_option linter.unusedSimpArgs false
open Go.RowKit
theorem fitsT_no {zs : List ByteArray} {k : Nat} (h : k < zs.length) (hs : 65536 < (zs.getD k ByteArray.empty).size) : fitsT zs = false :=
  decide_eq_false fun ha => by
    have := ha (zs.getD k ByteArray.empty) (by simp [List.getD, h])
    omega
set_option maxHeartbeats 3200000 in
set_option maxRecDepth 100000 in
theorem refOfL (w : World) (a : Option Addr) (n cap : Nat) (zs : List ByteArray) (hlen : zs.length = n) (ha : ArgRow w a n cap fun i => .string (zs.getD i ByteArray.empty)) (hn : n ≤ 1048576) :
    Calls Tryz.prog 9 #[.slice a n cap] w fun e w' => ((fitsT zs = true ∧ ∃ r F a' cap', e = .returned (.tuple #[pv r, .int .i64 0]) ∧ RefL w' r F zs (smallT zs) a' cap' ∧ ∀ k, F k → w.heap.size ≤ k) ∨ (fitsT zs = false ∧ e = .returned (.tuple #[.pointer none, .int .i64 3]))) ∧ Below w.heap.size w w' := by
  have hac := ha.1
  have HA := Lib.hid ha
  have HLn := Lib.hid hlen
  have HN := Lib.hid (refNewL w)
  have hd0 : decide ((1048576 : Int) < (n : Int)) = false := decide_eq_false (by omega)
  have hd0' : decide (1048576 < n) = false := decide_eq_false (by omega)
  clear ha hlen
  go_enter Tryz.func9, Tryz.ntmps9
  go_wp2_with fail
  refine HN.out.mono ?_
  rintro e w1 ⟨rfl, hh1, b1⟩
  obtain ⟨r, hr⟩ : ∃ r, r = w.heap.size := ⟨_, rfl⟩
  rw [← hr] at hh1 ⊢
  have Hr := Lib.hid hr
  have HQ := Lib.hid (And.intro hh1 b1)
  clear hh1 b1 hr HN
  go_wp2_with fail
  go_loopw [5] (fun i wr => ∃ k : Nat, k ≤ n ∧ i = .int .i64 k ∧ Hid ((∃ v, wr.heap[r]? = some (.cells #[v, .bool (!(smallT (zs.take k)))] 64 (0, 0)) ∧ SliceIs wr 0 9 v k ((zs.take k).map strV) ∧ ∀ x, vblock v = some x → w.heap.size ≤ x ∧ x ≠ r) ∧ (∀ x ∈ zs.take k, x.size ≤ 65536) ∧ Below w.heap.size w wr)) (fun i _ => n - (intOf i).toNat)
  case atStart => exact ⟨0, Nat.zero_le _, rfl, Lib.hid ⟨⟨.slice none 0 0, HQ.out.1, SliceIs.nil _ _ _, fun x hx => by cases hx⟩, by simp, HQ.out.2⟩⟩
  case round =>
    obtain ⟨k, hk, rfl, hI⟩ := hrel
    by_cases hlt : k < n
    · obtain ⟨⟨v, hh, hs, hv⟩, hz, hB⟩ := hI.out
      obtain ⟨b, o, hb, hc⟩ := HA.out.2.resolve_left (by omega)
      subst hb
      have hcell0 : w.cell? ⟨b, o + k, none⟩ = some (.string (zs.getD k ByteArray.empty)) := hc k hlt
      have hbw := World.block_lt_of_cell? w _ hcell0
      have hcell : wr.cell? ⟨b, o + k, none⟩ = some (.string (zs.getD k ByteArray.empty)) := by rw [hB.cell hbw]; exact hcell0
      have hkl : k < zs.length := by rw [HLn.out]; exact hlt
      have htk : zs.take (k + 1) = zs.take k ++ [zs.getD k ByteArray.empty] := by rw [List.take_succ_eq_append_getElem hkl]; simp [List.getD, hkl]
      have hlk : (zs.take k).length = k := by rw [List.length_take]; omega
      have hst := smallT_push (zs.take k) (zs.getD k ByteArray.empty)
      rw [← htk, hlk] at hst
      have hnofit := fun hs2 => fitsT_no (zs := zs) hkl hs2
      clear hc
      generalize zs.getD k ByteArray.empty = y at *
      by_cases hy : y.size ≤ 65536
      · have g1 : decide (65536 < y.size) = false := decide_eq_false (by omega)
        have g2 : decide ((65536 : Int) < (y.size : Int)) = false := decide_eq_false (by omega)
        obtain ⟨av, cv, rfl, _⟩ := hs.arg
        have hd : Below wr.heap.size wr wr.drew := belowN (Below.refl _ _) 1
        have hhd : wr.drew.heap[r]? = some (.cells #[.slice av k cv, .bool (!(smallT (zs.take k)))] 64 (0, 0)) := hh
        have hcd : wr.drew.cell? ⟨b, o + k, none⟩ = some (.string y) := hcell
        obtain ⟨i0, k1, k2, k3, k4⟩ := info_parts info_str
        obtain ⟨v3, w3, hr3, s3, c3, hv3⟩ := run_append_own1 (P := Tryz.prog) (t := 22) (ty := 22) Tryz.underlying22 k1 k2 k3 k4 rfl (hs.below hd) (.string y) rfl (by unfold maxLen; omega) (by omega)
        obtain ⟨a3, cc3, rfl, _⟩ := s3.arg
        obtain ⟨W1, hW1⟩ : ∃ W1, W1 = (wr.alloc (.cells #[.string y] 9)).drew := ⟨_, rfl⟩
        have hhW : W1.heap[r]? = some (.cells #[.slice av k cv, .bool (!(smallT (zs.take k)))] 64 (0, 0)) := by rw [hW1]; exact heap_old (show wr.heap[r]? = _ from hh) _
        have hcW : W1.cell? ⟨b, o + k, none⟩ = some (.string y) := by rw [hW1]; exact (((Below.refl wr.heap.size wr).alloc (Nat.le_refl _) _).cell (World.block_lt_of_cell? wr _ hcell)).trans hcell
        have hh3 : w3.heap[r]? = some (.cells #[.slice av k cv, .bool (!(smallT (zs.take k)))] 64 (0, 0)) := c3.keep hhd fun e => (hv r e).2 rfl
        obtain ⟨w4, hw4⟩ : ∃ w4, w4 = w3.setCell ⟨r, 0, none⟩ (.slice a3 (k + 1) cc3) := ⟨_, rfl⟩
        have hh4 := setCell_head hh3 0 (.slice a3 (k + 1) cc3)
        rw [← hw4] at hh4
        have hc4 : Chg (fun x => x = r) w3 w4 := by rw [hw4]; exact Chg.setCell _ _ _ _ rfl
        have hrl : r < wr.heap.size := heap_lt hh
        have hv3' : ∀ x, vblock (.slice a3 (k + 1) cc3) = some x → w.heap.size ≤ x ∧ x ≠ r := fun x hx => by
          rcases hv3 with e | ⟨y2, e, hy2⟩
          · rw [e] at hx; exact hv x hx
          · rw [e] at hx; cases hx
            have := hB.size
            have h9 : wr.drew.heap.size = wr.heap.size := rfl
            exact ⟨by omega, by omega⟩
        have s4 := s3.chg hc4 fun x hx e => (hv3' x hx).2 e
        have HSn := Lib.hid (seen_any hh4 y)
        have hB4 : Below w.heap.size w w4 := belowChg (belowChg (hB.trans (hd.mono hB.size)) c3 (by have := hB.size; exact this) fun x hx _ => (hv x hx).1) hc4 (by have := hB.size; have := c3.size; have h9 : wr.drew.heap.size = wr.heap.size := rfl; omega) fun x hx _ => by rw [hx, Hr.out]; exact Nat.le_refl _
        have hcell4 : w4.cell? ⟨b, o + k, none⟩ = some (.string y) := by rw [hB4.cell hbw]; exact hcell0
        have HNx := Lib.hid (show ∀ w5, w5.heap[r]? = some (.cells #[.slice a3 (k + 1) cc3, .bool (!(smallT (zs.take k) && keeps ((k + 1 : Nat) : Int) y))] 64 (0, 0)) → Chg (fun x => x = r) w4 w5 →
            (∃ v, w5.heap[r]? = some (.cells #[v, .bool (!(smallT (zs.take (k + 1))))] 64 (0, 0)) ∧ SliceIs w5 0 9 v (k + 1) ((zs.take (k + 1)).map strV) ∧ ∀ x, vblock v = some x → w.heap.size ≤ x ∧ x ≠ r) ∧ (∀ x ∈ zs.take (k + 1), x.size ≤ 65536) ∧ Below w.heap.size w w5 from fun w5 h5 c5 => by
          refine ⟨⟨.slice a3 (k + 1) cc3, ?_, ?_, hv3'⟩, ?_, belowChg hB4 c5 hB4.size fun x hx _ => by rw [hx, Hr.out]; exact Nat.le_refl _⟩
          · rw [hst]; exact h5
          · rw [htk, List.map_append]
            exact s4.chg c5 fun x hx e => (hv3' x hx).2 e
          · intro x hx
            rw [htk] at hx
            rcases List.mem_append.1 hx with hx | hx
            · exact hz x hx
            · have : x = y := by simpa using hx
              rw [this]; exact hy)
        obtain ⟨X1, f, hX1, hff, hF⟩ := classOf (fun x => x.heap[r]? = some (.cells #[.slice av k cv, .bool (!(smallT (zs.take k)))] 64 (0, 0)) ∧ x.cell? ⟨b, o + k, none⟩ = some (.string y)) (w := wr.drew) ⟨hhd, hcd⟩
        have hf0 := fun x => cell_in (hff x).1 (i := 0) rfl
        have hf1 := fun x => (hff x).2
        have H0 := Lib.hid (hF wr.drew ⟨hhd, hcd⟩)
        have H1 := Lib.hid (hF W1 ⟨hhW, hcW⟩)
        have hr3' : (Builtin.append_ #[22, 22] 22 #[.slice av k cv, .slice (some ⟨wr.heap.size, 0, none⟩) 1 1]).run Tryz.prog W1 = .ok (.slice a3 (k + 1) cc3) w3 := by rw [hW1]; exact hr3
        have HR3 := Lib.hid hr3'
        have q0 := cell_in hh3 (i := 0) rfl
        have qf := frozen_in hh3 0
        have HWa := Lib.hid hW1
        have HW4 := Lib.hid hw4
        clear hI hh hs hv hz hB hcell0 htk hlk hst hd hhd hcd hr3 hr3' s3 c3 hv3 hW1 hhW hcW hh3 hw4 hh4 hc4 hrl hv3' s4 hB4 hff hF k1 k2 k3 k4 hnofit
        go_upto_region 9 with (fail)
        refine wp_region_text ⟨[9, 10, 13], [0, 11, 12], 10⟩ (fun w' => ∃ x : X1, w' = f x) (by kernel_rfl) (by kernel_rfl) H0.out ?_
        refine wpC_seg true (H0.out) 1 0 _ _ (by rfl) (by rfl) ?_
        simp only [List.take_succ_cons, List.take_zero, List.drop_succ_cons, List.drop_zero, if_true, Nat.zero_add, Nat.reduceAdd]
        repeat (go_big_quiet_step (fail))
        refine wpQuiet_nil ?_
        refine wpC_seg false (H0.out) 8 1 _ _ (by rfl) (by rfl) ?_
        simp only [List.take_succ_cons, List.take_zero, List.drop_succ_cons, List.drop_zero, Bool.false_eq_true, if_false, Nat.zero_add, Nat.reduceAdd]
        repeat (go_big_quiet_step (fail))
        refine wpQuiet_nil ?_
        refine wpC_loud (by rfl) (by rfl) fun K hK => ?_
        go_wp2_with fail
        rw [← HWa.out]
        refine hK _ _ (fun _ => H1.out) ?_
        clear hK
        refine wpC_value (by rfl) (by rfl) (exec_append rfl HR3.out) (fun h => absurd h (by decide)) ?_
        simp only [Act.put, List.setIfInBounds_toArray, List.set_cons_succ, List.set_cons_zero]
        refine wpC_segD 2 11 _ _ (by rfl) (by rfl) ?_
        simp only [List.take_succ_cons, List.take_zero, List.drop_succ_cons, List.drop_zero, if_true, Nat.zero_add, Nat.reduceAdd]
        repeat (go_big_quiet_step (fail))
        refine wpQuiet_nil ?_
        clear hf0 hf1 H0 H1
        refine wpC_loud (by rfl) (by rfl) fun K hK => ?_
        go_wp2_with fail
        rw [← HW4.out]
        refine hK _ _ (fun h => absurd h (by decide)) ?_
        clear hK
        refine wpC_nil ?_
        go_wp2_with fail
        refine HSn.out.mono ?_
        rintro e w5 ⟨⟨vv, rfl⟩, h5, c5⟩
        have HS := Lib.hid (HNx.out w5 h5 c5)
        clear h5 c5 HSn HNx
        go_wp2_with fail
        go_roundw
        case rel => exact ⟨k + 1, by omega, by go_num, HS⟩
        case measure => simp [intOf]; omega
      · have g1 : decide (65536 < y.size) = true := decide_eq_true (by omega)
        have g2 : decide ((65536 : Int) < (y.size : Int)) = true := decide_eq_true (by omega)
        have HF := Lib.hid (hnofit (by omega))
        have HB := Lib.hid hB
        clear hI hh hs hv hz hB hcell0 htk hlk hst hnofit hy
        go_wp2_with fail
        go_ret2
        exact ⟨.inr ⟨HF.out, rfl⟩, HB.out⟩
    · obtain rfl : k = n := by omega
      have HS := Lib.hid (show fitsT zs = true ∧ (∃ F a' cap', RefL wr r F zs (smallT zs) a' cap' ∧ ∀ k, F k → w.heap.size ≤ k) ∧ Below w.heap.size w wr by
        obtain ⟨⟨v, hh, hs, hv⟩, hz, hB⟩ := hI.out
        have e : zs.take k = zs := List.take_of_length_le (by rw [HLn.out]; exact Nat.le_refl _)
        rw [e] at hh hs hz
        obtain ⟨av, cv, rfl, harg⟩ := texts_of_slice hs
        refine ⟨decide_eq_true hz, ⟨fun j => j = r ∨ (0 < zs.length ∧ ∃ b o, av = some ⟨b, o, none⟩ ∧ j = b), av, cv, ⟨by rw [HLn.out]; exact hh, by rw [HLn.out]; exact harg, fun j => Iff.rfl, ?_, by rw [HLn.out]; exact hn⟩, ?_⟩, hB⟩
        · rintro ⟨_, b, o, e2, e3⟩
          subst e2
          exact (hv b rfl).2 e3.symm
        · rintro j (rfl | ⟨_, b, o, e2, rfl⟩)
          · rw [Hr.out]; exact Nat.le_refl _
          · subst e2
            exact (hv _ rfl).1)
      clear hI
      go_wp2_with fail
      go_ret2
      obtain ⟨h1, ⟨F, a', cap', h2, h3⟩, h4⟩ := HS.out
      exact ⟨.inl ⟨h1, r, F, a', cap', rfl, h2, h3⟩, h4⟩
end Go.Proofs.YtlecnlnpgghmbaaGreatDoor

/- Lists that are not there: the program's (nil, or without a row), the document's (nil). (Printed by gen_lpl1.py.) -/
namespace Go.Proofs.YtlecnlnpgghmbaaGreatDoor
set_option linter.unusedVariables false
set_option linter.unusedSimpArgs false
open Go.RowKit
/-- It is not there. -/
def GoneP (w : World) (p : Value) : Prop := p = .pointer none ∨ ∃ z, p = pv z ∧ w.heap[z]? = some (.cells #[.nilIface] 39 (0, 0))
theorem GoneP.chg {w w' : World} {p : Value} (h : GoneP w p) {S : Nat → Prop} (hc : Chg S w w') (hn : ∀ z, p = pv z → ¬ S z) : GoneP w' p := by
  rcases h with h | ⟨z, h, hz⟩
  · exact .inl h
  · exact .inr ⟨z, h, hc.keep hz (hn z h)⟩
set_option maxHeartbeats 800000 in
set_option maxRecDepth 100000 in
theorem gone_no {w : World} {p : Value} (h : GoneP w p) : Calls Tryz.prog 70 #[p] w fun e w' => e = .returned (.bool true) ∧ w = w' := by
  rcases h with rfl | ⟨z, rfl, hz⟩
  · go_enter Tryz.func70, Tryz.ntmps70
    go_wp2_with fail
    go_ret
    exact ⟨rfl, rfl⟩
  · have c0 := cell_in hz (i := 0) rfl
    clear hz
    go_enter Tryz.func70, Tryz.ntmps70
    go_wp2_with fail
    go_ret
    exact ⟨rfl, rfl⟩

set_option maxHeartbeats 800000 in
set_option maxRecDepth 100000 in
theorem len_no {w : World} {p : Value} (h : GoneP w p) :
    Calls Tryz.prog 34 #[p] w fun e w' => e = .returned (.int .i64 0) ∧ w = w' := by
  have HG := Lib.hid (gone_no h)
  clear h
  go_enter Tryz.func34, Tryz.ntmps34
  go_wp2_with fail
  refine HG.out.mono ?_
  rintro e w' ⟨rfl, rfl⟩
  go_wp2_with fail
  go_ret
  exact ⟨rfl, rfl⟩
set_option maxHeartbeats 800000 in
set_option maxRecDepth 100000 in
theorem push_no {w : World} {p : Value} (h : GoneP w p) (front : Bool) (s : ByteArray) :
    Calls Tryz.prog 19 #[p, .bool front, .string s] w fun e w' => e = .returned (.int .i64 2) ∧ w = w' := by
  have HG := Lib.hid (gone_no h)
  clear h
  go_enter Tryz.func19, Tryz.ntmps19
  go_wp2_with fail
  refine HG.out.mono ?_
  rintro e w' ⟨rfl, rfl⟩
  go_wp2_with fail
  go_ret
  exact ⟨rfl, rfl⟩
set_option maxHeartbeats 800000 in
set_option maxRecDepth 100000 in
theorem pop_no {w : World} {p : Value} (h : GoneP w p) (front : Bool) :
    Calls Tryz.prog 24 #[p, .bool front] w fun e w' => e = .returned (.tuple #[.string ByteArray.empty, .bool false]) ∧ w = w' := by
  have HL := Lib.hid (len_no h)
  clear h
  go_enter Tryz.func24, Tryz.ntmps24
  go_wp2_with fail
  refine HL.out.mono ?_
  rintro e w' ⟨rfl, rfl⟩
  go_wp2_with fail
  go_ret2
  exact ⟨rfl, rfl⟩
set_option maxHeartbeats 800000 in
set_option maxRecDepth 100000 in
theorem get_no {w : World} {p : Value} (h : GoneP w p) (x : Int) :
    Calls Tryz.prog 32 #[p, .int .i64 x] w fun e w' => e = .returned (.tuple #[.string ByteArray.empty, .bool false]) ∧ w = w' := by
  have HG := Lib.hid (gone_no h)
  clear h
  go_enter Tryz.func32, Tryz.ntmps32
  go_wp2_with fail
  refine HG.out.mono ?_
  rintro e w' ⟨rfl, rfl⟩
  go_wp2_with fail
  go_ret2
  exact ⟨rfl, rfl⟩
set_option maxHeartbeats 800000 in
set_option maxRecDepth 100000 in
theorem set_no {w : World} {p : Value} (h : GoneP w p) (x : Int) (s : ByteArray) :
    Calls Tryz.prog 26 #[p, .int .i64 x, .string s] w fun e w' => e = .returned (.int .i64 2) ∧ w = w' := by
  have HG := Lib.hid (gone_no h)
  clear h
  go_enter Tryz.func26, Tryz.ntmps26
  go_wp2_with fail
  refine HG.out.mono ?_
  rintro e w' ⟨rfl, rfl⟩
  go_wp2_with fail
  go_ret
  exact ⟨rfl, rfl⟩
set_option maxHeartbeats 800000 in
set_option maxRecDepth 100000 in
theorem bounds_no {w : World} {p : Value} (h : GoneP w p) (x y : Int) (hx : -9223372036854775808 ≤ x ∧ x ≤ 9223372036854775807) (hy : -9223372036854775808 ≤ y ∧ y ≤ 9223372036854775807) :
    Calls Tryz.prog 40 #[p, .int .i64 x, .int .i64 y] w fun e w' => e = .returned (.tuple #[.int .i64 (bdA 0 x), .int .i64 (bdB 0 y), .bool (decide (bdA 0 x ≤ bdB 0 y))]) ∧ w = w' := by
  have HL := Lib.hid (len_no h)
  clear h
  rcases (show (bdA 0 x = max x 0 ∧ decide (x < 0) = true ∧ x < 0) ∨ (bdA 0 x = x ∧ decide (x < 0) = false ∧ 0 ≤ x) by unfold bdA; by_cases h : x < 0 <;> simp [h] <;> omega) with ⟨ga, da, na⟩ | ⟨ga, da, na⟩
  all_goals
    rcases (show (bdB 0 y = min y (-1) ∧ decide (y < 0) = true ∧ y < 0) ∨ (bdB 0 y = min y (-1) ∧ decide (y < 0) = false ∧ 0 ≤ y) by unfold bdB; by_cases h : y < 0 <;> simp [h] <;> omega) with ⟨gb, db, nb⟩ | ⟨gb, db, nb⟩
    all_goals
      rw [ga, gb]
      clear ga gb
      go_enter Tryz.func40, Tryz.ntmps40
      go_wp2_with fail
      refine HL.out.mono ?_
      rintro e w' ⟨rfl, rfl⟩
      go_wp2_with fail
      refine bodyPost_ret (results_tmp3 rfl _ _ _) rfl ?_
      exact ⟨rfl, rfl⟩
set_option maxHeartbeats 800000 in
set_option maxRecDepth 100000 in
theorem range_no {w : World} {p : Value} (h : GoneP w p) (x y : Int) (hx : -9223372036854775808 ≤ x ∧ x ≤ 9223372036854775807) (hy : -9223372036854775808 ≤ y ∧ y ≤ 9223372036854775807) :
    Calls Tryz.prog 14 #[p, .int .i64 x, .int .i64 y] w fun e w' => e = .returned (.slice none 0 0) ∧ w = w' := by
  have HB := Lib.hid (bounds_no h x y hx hy)
  rw [decide_eq_false (show ¬ bdA 0 x ≤ bdB 0 y by unfold bdA bdB; split <;> split <;> omega)] at HB
  generalize bdA 0 x = p1 at *
  generalize bdB 0 y = q1 at *
  clear h
  go_enter Tryz.func14, Tryz.ntmps14
  go_wp2_with fail
  refine HB.out.mono ?_
  rintro e w' ⟨rfl, rfl⟩
  go_wp2_with fail
  go_ret
  exact ⟨rfl, rfl⟩
set_option maxHeartbeats 800000 in
set_option maxRecDepth 100000 in
theorem trim_no {w : World} {p : Value} (h : GoneP w p) (x y : Int) :
    Calls Tryz.prog 28 #[p, .int .i64 x, .int .i64 y] w fun e w' => (∃ v, e = .returned v) ∧ w = w' := by
  have HG := Lib.hid (gone_no h)
  clear h
  go_enter Tryz.func28, Tryz.ntmps28
  go_wp2_with fail
  refine HG.out.mono ?_
  rintro e w' ⟨rfl, rfl⟩
  go_wp2_with fail
  refine bodyPost_ret (results_none rfl _ _ _) rfl ?_
  exact ⟨⟨_, rfl⟩, rfl⟩
set_option maxHeartbeats 800000 in
set_option maxRecDepth 100000 in
theorem remove_no {w : World} {p : Value} (h : GoneP w p) (c : Int) (s : ByteArray) :
    Calls Tryz.prog 30 #[p, .int .i64 c, .string s] w fun e w' => e = .returned (.int .i64 0) ∧ w = w' := by
  have HG := Lib.hid (gone_no h)
  clear h
  go_enter Tryz.func30, Tryz.ntmps30
  go_wp2_with fail
  refine HG.out.mono ?_
  rintro e w' ⟨rfl, rfl⟩
  go_wp2_with fail
  go_ret
  exact ⟨rfl, rfl⟩
set_option maxHeartbeats 800000 in
set_option maxRecDepth 100000 in
theorem small_no {w : World} {p : Value} (h : GoneP w p) :
    Calls Tryz.prog 36 #[p] w fun e w' => e = .returned (.bool false) ∧ w = w' := by
  have HG := Lib.hid (gone_no h)
  clear h
  go_enter Tryz.func36, Tryz.ntmps36
  go_wp2_with fail
  refine HG.out.mono ?_
  rintro e w' ⟨rfl, rfl⟩
  go_wp2_with fail
  go_ret
  exact ⟨rfl, rfl⟩
set_option maxHeartbeats 800000 in
set_option maxRecDepth 100000 in
theorem charge_no {w : World} {p : Value} (h : GoneP w p) :
    Calls Tryz.prog 38 #[p] w fun e w' => e = .returned (.int .i64 0) ∧ w = w' := by
  have HR := Lib.hid (range_no h 0 (-1) (by omega) (by omega))
  clear h
  go_enter Tryz.func38, Tryz.ntmps38
  go_wp2_with fail
  refine HR.out.mono ?_
  rintro e w' ⟨rfl, rfl⟩
  go_wp2_with fail
  go_loop [3, 9] (fun n i => n = .int .i64 0 ∧ i = .int .i64 0) (fun _ _ => 0)
  case atStart => exact ⟨rfl, rfl⟩
  case round =>
    obtain ⟨rfl, rfl⟩ := hrel
    go_wp2_with fail
    go_ret
    exact ⟨rfl, rfl⟩
set_option maxHeartbeats 800000 in
set_option maxRecDepth 100000 in
theorem refLen_no (w : World) :
    Calls Tryz.prog 35 #[.pointer none] w fun e w' => e = .returned (.int .i64 0) ∧ w = w' := by
  go_enter Tryz.func35, Tryz.ntmps35
  go_wp2_with fail
  go_ret
  exact ⟨rfl, rfl⟩
set_option maxHeartbeats 800000 in
set_option maxRecDepth 100000 in
theorem refPush_no (w : World) (front : Bool) (s : ByteArray) :
    Calls Tryz.prog 23 #[.pointer none, .bool front, .string s] w fun e w' => e = .returned (.int .i64 2) ∧ w = w' := by
  go_enter Tryz.func23, Tryz.ntmps23
  go_wp2_with fail
  go_ret
  exact ⟨rfl, rfl⟩
set_option maxHeartbeats 800000 in
set_option maxRecDepth 100000 in
theorem refPop_no (w : World) (front : Bool) :
    Calls Tryz.prog 25 #[.pointer none, .bool front] w fun e w' => e = .returned (.tuple #[.string ByteArray.empty, .bool false]) ∧ w = w' := by
  have HL := Lib.hid (refLen_no w)
  go_enter Tryz.func25, Tryz.ntmps25
  go_wp2_with fail
  refine HL.out.mono ?_
  rintro e w' ⟨rfl, rfl⟩
  go_wp2_with fail
  go_ret2
  exact ⟨rfl, rfl⟩
set_option maxHeartbeats 800000 in
set_option maxRecDepth 100000 in
theorem refSet_no (w : World) (x : Int) (s : ByteArray) :
    Calls Tryz.prog 27 #[.pointer none, .int .i64 x, .string s] w fun e w' => e = .returned (.int .i64 2) ∧ w = w' := by
  go_enter Tryz.func27, Tryz.ntmps27
  go_wp2_with fail
  go_ret
  exact ⟨rfl, rfl⟩
set_option maxHeartbeats 800000 in
set_option maxRecDepth 100000 in
theorem refRange_no (w : World) (x y : Int) (hx : -9223372036854775808 ≤ x ∧ x ≤ 9223372036854775807) (hy : -9223372036854775808 ≤ y ∧ y ≤ 9223372036854775807) :
    Calls Tryz.prog 17 #[.pointer none, .int .i64 x, .int .i64 y] w fun e w' => e = .returned (.slice none 0 0) ∧ w = w' := by
  have HL := Lib.hid (refLen_no w)
  have HB := Lib.hid (refBounds (w := w) 0 (by omega) x y hx hy)
  rw [decide_eq_false (show ¬ bdA 0 x ≤ bdB 0 y by unfold bdA bdB; split <;> split <;> omega), show ((0 : Nat) : Int) = 0 from rfl] at HB
  generalize bdA 0 x = p at *
  generalize bdB 0 y = q at *
  go_enter Tryz.func17, Tryz.ntmps17
  go_wp2_with fail
  refine HL.out.mono ?_
  rintro e w' ⟨rfl, rfl⟩
  go_wp2_with fail
  refine HB.out.mono ?_
  rintro e w' ⟨rfl, rfl⟩
  go_wp2_with fail
  go_ret
  exact ⟨rfl, rfl⟩
set_option maxHeartbeats 800000 in
set_option maxRecDepth 100000 in
theorem refTrim_no (w : World) (x y : Int) :
    Calls Tryz.prog 29 #[.pointer none, .int .i64 x, .int .i64 y] w fun e w' => (∃ v, e = .returned v) ∧ w = w' := by
  go_enter Tryz.func29, Tryz.ntmps29
  go_wp2_with fail
  go_end0
  exact ⟨⟨_, rfl⟩, rfl⟩
set_option maxHeartbeats 800000 in
set_option maxRecDepth 100000 in
theorem refRemove_no (w : World) (c : Int) (s : ByteArray) :
    Calls Tryz.prog 31 #[.pointer none, .int .i64 c, .string s] w fun e w' => e = .returned (.int .i64 0) ∧ w = w' := by
  go_enter Tryz.func31, Tryz.ntmps31
  go_wp2_with fail
  go_ret
  exact ⟨rfl, rfl⟩
set_option maxHeartbeats 800000 in
set_option maxRecDepth 100000 in
theorem refPlace_no (w : World) (x : Int) (hx : -9223372036854775808 ≤ x ∧ x ≤ 9223372036854775807) :
    Calls Tryz.prog 72 #[.pointer none, .int .i64 x] w fun e w' => e = .returned (.tuple #[.int .i64 x, .bool false]) ∧ w = w' := by
  have HL := Lib.hid (refLen_no w)
  by_cases h : x < 0
  · have d1 : decide (x < 0) = true := decide_eq_true h
    have d2 : decide (0 ≤ x) = false := decide_eq_false (by omega)
    go_enter Tryz.func72, Tryz.ntmps72
    go_wp2_with fail
    refine HL.out.mono ?_
    rintro e w' ⟨rfl, rfl⟩
    go_wp2_with fail
    go_ret2
    exact ⟨rfl, rfl⟩
  · have d1 : decide (x < 0) = false := decide_eq_false h
    have d2 : decide (0 ≤ x) = true := decide_eq_true (by omega)
    go_enter Tryz.func72, Tryz.ntmps72
    go_wp2_with fail
    refine HL.out.mono ?_
    rintro e w' ⟨rfl, rfl⟩
    go_wp2_with fail
    go_ret2
    exact ⟨rfl, rfl⟩
set_option maxHeartbeats 800000 in
set_option maxRecDepth 100000 in
theorem refGet_no (w : World) (x : Int) (hx : -9223372036854775808 ≤ x ∧ x ≤ 9223372036854775807) :
    Calls Tryz.prog 33 #[.pointer none, .int .i64 x] w fun e w' => e = .returned (.tuple #[.string ByteArray.empty, .bool false]) ∧ w = w' := by
  have HP := Lib.hid (refPlace_no w x hx)
  go_enter Tryz.func33, Tryz.ntmps33
  go_wp2_with fail
  refine HP.out.mono ?_
  rintro e w' ⟨rfl, rfl⟩
  go_wp2_with fail
  go_ret2
  exact ⟨rfl, rfl⟩
set_option maxHeartbeats 800000 in
set_option maxRecDepth 100000 in
theorem refSmall_no (w : World) :
    Calls Tryz.prog 37 #[.pointer none] w fun e w' => e = .returned (.bool false) ∧ w = w' := by
  go_enter Tryz.func37, Tryz.ntmps37
  go_wp2_with fail
  go_ret
  exact ⟨rfl, rfl⟩
set_option maxHeartbeats 800000 in
set_option maxRecDepth 100000 in
theorem refCharge_no (w : World) :
    Calls Tryz.prog 39 #[.pointer none] w fun e w' => e = .returned (.int .i64 0) ∧ w = w' := by
  have HL := Lib.hid (refLen_no w)
  go_enter Tryz.func39, Tryz.ntmps39
  go_wp2_with fail
  go_loop [3, 4] (fun n i => n = .int .i64 0 ∧ i = .int .i64 0) (fun _ _ => 0)
  case atStart => exact ⟨rfl, rfl⟩
  case round =>
    obtain ⟨rfl, rfl⟩ := hrel
    go_wp2_with fail
    refine HL.out.mono ?_
    rintro e w' ⟨rfl, rfl⟩
    go_wp2_with fail
    go_ret
    exact ⟨rfl, rfl⟩
end Go.Proofs.YtlecnlnpgghmbaaGreatDoor

/- The program's list: Push and Of at any texts. -/
namespace Go.Proofs.YtlecnlnpgghmbaaGreatDoor
set_option linter.unusedVariables false
set_option linter.unusedSimpArgs false
open Go.RowKit
set_option maxHeartbeats 1600000 in
set_option maxRecDepth 100000 in
theorem pushL_any {w0 w : World} (hl : Laid w0) (hb0 : Below w0.heap.size w0 w) (hN : w0.heap.size ≤ w.heap.size) {l : Nat} {F : Nat → Prop} {L : List ByteArray} {sm : Bool} (h : ListF w l F L sm) (kF : ∀ k, F k → w0.heap.size ≤ k) (front : Bool) (s : ByteArray) (hs : s.size ≤ 9000000000000000000) :
    Calls Tryz.prog 19 #[pv l, .bool front, .string s] w fun e w' => e = .returned (.int .i64 (pushC L s)) ∧ (∃ F', ListF w' l F' (pushL' front L s) (pushS L s sm) ∧ Fresh w F F') ∧ Chg F w w' := by
  by_cases hlim : 65536 < s.size ∨ 1048576 ≤ L.length
  · have e1 : pushC L s = 3 := if_pos hlim
    have e2 : pushL' front L s = L := if_pos hlim
    have e3 : pushS L s sm = sm := if_pos hlim
    rw [e1, e2, e3]
    have hf := h.few
    have HE := Lib.hid (show (∃ F', ListF w l F' L sm ∧ Fresh w F F') ∧ Chg F w w from ⟨⟨F, h, fun k hk => .inl hk⟩, Chg.refl _ _⟩)
    obtain ⟨v, Fr, h⟩ := h
    have HG := Lib.hid (goneL h)
    have HL := Lib.hid (lenL h)
    have hn9 : L.length ≤ 1000000000 := by omega
    clear h hl hb0 kF e1 e2 e3
    by_cases hz : 65536 < s.size
    · have d1 : decide ((65536 : Int) < (s.size : Int)) = true := decide_eq_true (by omega)
      have d1' : decide (65536 < s.size) = true := decide_eq_true (by omega)
      clear hlim
      go_enter Tryz.func19, Tryz.ntmps19
      go_wp2_with fail
      refine HG.out.mono ?_
      rintro e w' ⟨rfl, rfl⟩
      go_wp2_with fail
      go_ret
      exact ⟨rfl, HE.out⟩
    · have d1 : decide ((65536 : Int) < (s.size : Int)) = false := decide_eq_false (by omega)
      have d1' : decide (65536 < s.size) = false := decide_eq_false (by omega)
      have d2 : decide ((1048576 : Int) ≤ (L.length : Int)) = true := decide_eq_true (by omega)
      have d2' : decide (1048576 ≤ L.length) = true := decide_eq_true (by omega)
      clear hlim
      go_enter Tryz.func19, Tryz.ntmps19
      go_wp2_with fail
      refine HG.out.mono ?_
      rintro e w' ⟨rfl, rfl⟩
      go_wp2_with fail
      refine HL.out.mono ?_
      rintro e w' ⟨rfl, rfl⟩
      go_wp2_with fail
      go_ret
      exact ⟨rfl, HE.out⟩
  · have e1 : pushC L s = 0 := if_neg hlim
    have e2 : pushL' front L s = pushT front L s := if_neg hlim
    have e3 : pushS L s sm = (sm && keeps ((L.length : Int) + 1) s) := if_neg hlim
    rw [e1, e2, e3]
    exact pushL hl hb0 hN h kF front s (by omega) (by omega)
theorem pushT_end (L : List ByteArray) (s : ByteArray) : pushT false L s = L ++ [s] := rfl
set_option maxHeartbeats 1600000 in
set_option maxRecDepth 100000 in
theorem ofL_any {w : World} (hl : Laid w) (a : Option Addr) (n cap : Nat) (zs : List ByteArray) (hlen : zs.length = n) (ha : ArgRow w a n cap fun i => .string (zs.getD i ByteArray.empty)) (hn : n ≤ 1048576) (hsz : ∀ s ∈ zs, s.size ≤ 1048576) :
    Calls Tryz.prog 8 #[.slice a n cap] w fun e w' => ((fitsT zs = true ∧ ∃ l F, e = .returned (.tuple #[pv l, .int .i64 0]) ∧ ListF w' l F zs (smallT zs) ∧ ∀ k, F k → w.heap.size ≤ k) ∨ (fitsT zs = false ∧ e = .returned (.tuple #[.pointer none, .int .i64 3]))) ∧ Below w.heap.size w w' := by
  have hac := ha.1
  have HA := Lib.hid ha
  have HLn := Lib.hid hlen
  have HLd := Lib.hid hl
  have HSz := Lib.hid hsz
  have HN := Lib.hid (newL w)
  clear ha hlen hl hsz
  go_enter Tryz.func8, Tryz.ntmps8
  go_wp2_with fail
  refine HN.out.mono ?_
  rintro e w1 ⟨⟨l, F0, rfl, q1, k1⟩, b1⟩
  have HQ := Lib.hid (And.intro q1 (And.intro k1 b1))
  clear q1 k1 b1 HN
  go_wp2_with fail
  go_loopw [11] (fun i wr => ∃ k : Nat, k ≤ n ∧ i = .int .i64 k ∧ Hid ((∃ F, ListF wr l F (zs.take k) (smallT (zs.take k)) ∧ ∀ k, F k → w.heap.size ≤ k) ∧ (∀ x ∈ zs.take k, x.size ≤ 65536) ∧ Below w.heap.size w wr)) (fun i _ => n - (intOf i).toNat)
  case atStart => exact ⟨0, Nat.zero_le _, rfl, Lib.hid ⟨⟨_, by simpa [smallT] using HQ.out.1, HQ.out.2.1⟩, by simp, HQ.out.2.2⟩⟩
  case round =>
    obtain ⟨k, hk, rfl, hI⟩ := hrel
    by_cases hlt : k < n
    · obtain ⟨b, o, hb, hc⟩ := HA.out.2.resolve_left (by omega)
      subst hb
      have hcell : w.cell? ⟨b, o + k, none⟩ = some (.string (zs.getD k ByteArray.empty)) := hc k hlt
      have hkl : k < zs.length := by rw [HLn.out]; exact hlt
      have hcell' : wr.cell? ⟨b, o + k, none⟩ = some (.string (zs.getD k ByteArray.empty)) := by rw [hI.out.2.2.cell (World.block_lt_of_cell? w _ hcell)]; exact hcell
      obtain ⟨⟨F, hP, hF⟩, hz, hB⟩ := hI.out
      have hmem : zs.getD k ByteArray.empty ∈ zs := by simp [List.getD, hkl]
      have hlk : (zs.take k).length = k := by rw [List.length_take]; omega
      have htk : zs.take (k + 1) = zs.take k ++ [zs.getD k ByteArray.empty] := by rw [List.take_succ_eq_append_getElem hkl]; simp [List.getD, hkl]
      have HIn := Lib.hid (pushL_any HLd.out hB hB.size hP hF false (zs.getD k ByteArray.empty) (by have := HSz.out _ hmem; omega))
      by_cases hy : (zs.getD k ByteArray.empty).size ≤ 65536
      · have hlim : ¬ (65536 < (zs.getD k ByteArray.empty).size ∨ 1048576 ≤ (zs.take k).length) := by rw [hlk]; omega
        rw [show pushC (zs.take k) (zs.getD k ByteArray.empty) = 0 from if_neg hlim, show pushL' false (zs.take k) (zs.getD k ByteArray.empty) = zs.take (k + 1) from (if_neg hlim).trans htk.symm, show pushS (zs.take k) (zs.getD k ByteArray.empty) (smallT (zs.take k)) = smallT (zs.take (k + 1)) from (if_neg hlim).trans (by rw [← smallT_push, ← htk])] at HIn
        have HNx := Lib.hid (show ∀ w', (∃ F', ListF w' l F' (zs.take (k + 1)) (smallT (zs.take (k + 1))) ∧ Fresh wr F F') → Chg F wr w' → (∃ F, ListF w' l F (zs.take (k + 1)) (smallT (zs.take (k + 1))) ∧ ∀ k, F k → w.heap.size ≤ k) ∧ (∀ x ∈ zs.take (k + 1), x.size ≤ 65536) ∧ Below w.heap.size w w' from fun w' ⟨F', h1, h2⟩ hc =>
          ⟨⟨F', h1, fun j hj => (h2 j hj).elim (hF j) fun h => Nat.le_trans hB.size h⟩, fun x hx => by
            rw [htk] at hx
            rcases List.mem_append.1 hx with hx | hx
            · exact hz x hx
            · rw [List.mem_singleton.1 hx]; exact hy, belowChg hB hc hB.size fun j hj _ => hF j hj⟩)
        clear hI hP hF hB htk hcell hc hlk hmem hz hlim hy
        generalize zs.getD k ByteArray.empty = y at *
        go_wp2_with fail
        refine HIn.out.mono ?_
        rintro e w2 ⟨rfl, h1, h2⟩
        have HS := Lib.hid (HNx.out w2 h1 h2)
        clear h1 h2 HIn HNx
        go_wp2_with fail
        go_roundw
        case rel => exact ⟨k + 1, by omega, by go_num, HS⟩
        case measure => simp [intOf]; omega
      · have hlim : 65536 < (zs.getD k ByteArray.empty).size ∨ 1048576 ≤ (zs.take k).length := by omega
        rw [show pushC (zs.take k) (zs.getD k ByteArray.empty) = 3 from if_pos hlim] at HIn
        have HF := Lib.hid (fitsT_no (zs := zs) hkl (by omega))
        have HB := Lib.hid (And.intro hB hF)
        clear hI hP hF hB htk hcell hc hlk hmem hz hlim hy
        generalize zs.getD k ByteArray.empty = y at *
        go_wp2_with fail
        refine HIn.out.mono ?_
        rintro e w2 ⟨rfl, _, h2⟩
        have HS := Lib.hid (show Below w.heap.size w w2 from belowChg HB.out.1 h2 HB.out.1.size fun j hj _ => HB.out.2 j hj)
        clear h2 HIn
        go_wp2_with fail
        go_ret2
        exact ⟨.inr ⟨HF.out, rfl⟩, HS.out⟩
    · obtain rfl : k = n := by omega
      have HS := Lib.hid (show fitsT zs = true ∧ (∃ F, ListF wr l F zs (smallT zs) ∧ ∀ k, F k → w.heap.size ≤ k) ∧ Below w.heap.size w wr by
        have := hI.out
        rw [List.take_of_length_le (by have := HLn.out; omega)] at this
        exact ⟨decide_eq_true this.2.1, this.1, this.2.2⟩)
      clear hI
      go_wp2_with fail
      go_ret2
      obtain ⟨h0, ⟨F, h1, h2⟩, h3⟩ := HS.out
      exact ⟨.inl ⟨h0, l, F, rfl, h1, h2⟩, h3⟩
end Go.Proofs.YtlecnlnpgghmbaaGreatDoor

/- Slices that a call has made, of elements of so many cells. -/
namespace Go.Proofs.YtlecnlnpgghmbaaGreatDoor
set_option linter.unusedVariables false
set_option linter.unusedSimpArgs false
open Go.RowKit
/-- The slice value v holds n elements of z cells each, the cells xs; its row lies in a block from B on. -/
def SliceN (w : World) (B : Nat) (e : TypeId) (z : Nat) (v : Value) (n : Nat) (xs : List Value) : Prop :=
  xs.length = n * z ∧ ((v = .slice none 0 0 ∧ n = 0) ∨ ∃ g cap cur, v = .slice (some ⟨g, 0, none⟩) n cap ∧ B ≤ g ∧ RowAt w g e cur ∧ cur.size = cap * z ∧ n ≤ cap ∧ cap ≤ maxLen ∧ cur.toList.take (n * z) = xs)
theorem SliceN.nil (w : World) (B : Nat) (e : TypeId) (z : Nat) : SliceN w B e z (.slice none 0 0) 0 [] := ⟨by simp, .inl ⟨rfl, rfl⟩⟩
section
variable {w : World} {B : Nat} {e : TypeId} {z : Nat} {v : Value} {n : Nat} {xs : List Value}
theorem SliceN.chg (h : SliceN w B e z v n xs) {S : Nat → Prop} {w' : World} (hc : Chg S w w') (hn : ∀ k, vblock v = some k → ¬ S k) : SliceN w' B e z v n xs := by
  refine ⟨h.1, h.2.imp id ?_⟩
  rintro ⟨g, cap, cur, rfl, h2, h3, h4⟩
  exact ⟨g, cap, cur, rfl, h2, h3.keep hc (hn g rfl), h4⟩
theorem SliceN.below (h : SliceN w B e z v n xs) {w' : World} (hb : Below w.heap.size w w') : SliceN w' B e z v n xs := h.chg (Chg.of_below (fun _ => False) hb) fun _ _ => id
theorem SliceN.block_lt (h : SliceN w B e z v n xs) {k : Nat} (hk : vblock v = some k) : B ≤ k ∧ k < w.heap.size := by
  rcases h.2 with ⟨rfl, rfl⟩ | ⟨g, cap, cur, rfl, h2, h3, h4⟩
  · cases hk
  · cases hk; exact ⟨h2, h3.lt⟩
theorem SliceN.form (h : SliceN w B e z v n xs) : ∃ a cap, v = .slice a n cap ∧ n ≤ cap ∧ cap ≤ maxLen := by
  rcases h.2 with ⟨rfl, rfl⟩ | ⟨g, cap, cur, rfl, _, _, _, h5, h6, _⟩
  · exact ⟨none, 0, rfl, Nat.le_refl _, by unfold maxLen; omega⟩
  · exact ⟨_, cap, rfl, h5, h6⟩
theorem SliceN.mono (h : SliceN w B e z v n xs) {B' : Nat} (hB : B' ≤ B) : SliceN w B' e z v n xs := by
  refine ⟨h.1, h.2.imp id ?_⟩
  rintro ⟨g, cap, cur, rfl, h2, h3⟩
  exact ⟨g, cap, cur, rfl, Nat.le_trans hB h2, h3⟩
/-- A cell of it. -/
theorem SliceN.cell (h : SliceN w B e z v n xs) {g c m : Nat} (hv : v = .slice (some ⟨g, 0, none⟩) m c) {i : Nat} (hi : i < n * z) : w.cell? ⟨g, i, none⟩ = some (xs.getD i undef) := by
  rcases h.2 with ⟨rfl, rfl⟩ | ⟨g', cap, cur, rfl, _, h3, h4, h5, h6, h7⟩
  · cases hv
  · cases hv
    refine h3.cell ?_
    have e := congrArg (fun l => l[i]?) h7
    simp only [List.getElem?_take_of_lt hi, Array.getElem?_toList] at e
    have hl : i < xs.length := by rw [h.1]; exact hi
    rw [e]; simp [List.getD, hl]
theorem run_append_ownN {P : Program} {t ty : TypeId} {i : TypeInfo} {z0 : Value} {bytes : Nat} (ht : P.underlying t = some (.slice e)) (hi : P.info? e = some i) (hz : i.zero = some z0)
    (hsize : i.size = z) (hby : i.bytes = bytes) (hzs : z0.cells.size = z) (h : SliceN w B e z v n xs) (hB : B ≤ w.heap.size)
    (a : Addr) (m c : Nat) (news : List Value) (hm : 0 < m) (hl : news.length = m * z) (hnews : ∀ j u, news[j]? = some u → w.cell? (a.add j) = some u) (h1 : ∀ u ∈ news, u.oneCell' = true)
    (h63 : n + m ≤ maxLen) (hbytes : (n + m) * bytes ≤ 140737488355328) :
    ∃ v' w', (Builtin.append_ #[t, t] ty #[v, .slice (some a) m c]).run P w = .ok v' w' ∧ SliceN w' B e z v' (n + m) (xs ++ news) ∧ Chg (fun k => vblock v = some k) w w' ∧ (vblock v' = vblock v ∨ ∃ k, vblock v' = some k ∧ w.heap.size ≤ k) := by
  have fin : ∀ (g : Option Nat) (olds : List Value) v' w', g = vblock v → (∀ k, vblock v = some k → B ≤ k) → olds = xs → Appended w e z g olds news (n + m) v' w' → SliceN w' B e z v' (n + m) (xs ++ news) ∧ Chg (fun k => vblock v = some k) w w' ∧ (vblock v' = vblock v ∨ ∃ k, vblock v' = some k ∧ w.heap.size ≤ k) := by
    rintro g olds v' w' rfl hb rfl ⟨g', cap', cur', rfl, q1, q2, q3, q4, q5, q6, q7⟩
    refine ⟨⟨by rw [List.length_append, h.1, hl, Nat.add_mul], .inr ⟨g', cap', cur', rfl, ?_, q1, q2, q3, q4, q5⟩⟩, q7.mono fun k hk _ => hk.symm, q6.imp id fun h => ⟨g', rfl, h⟩⟩
    rcases q6 with q6 | q6
    · exact hb g' q6.symm
    · omega
  rcases h.2 with ⟨rfl, rfl⟩ | ⟨g, cap, cur, rfl, h2, h3, h4, h5, h6, h7⟩
  · obtain ⟨v', w', hr, hp⟩ := run_append_row_nil (P := P) w t ty e i z0 z bytes ht hi hz hsize hby hzs a m c news hm hl hnews (by omega) (by simpa using hbytes)
    have hx : [] = xs := (List.eq_nil_of_length_eq_zero (by rw [h.1]; simp)).symm
    refine ⟨v', w', hr, fin none [] v' w' rfl (fun k hk => by cases hk) hx ?_⟩
    rw [Nat.zero_add]; exact hp
  · obtain ⟨v', w', hr, hp⟩ := run_append_row (P := P) w t ty e i z0 z bytes ht hi hz hsize hby hzs g n cap cur h3 h4 h5 h6 a m c news hl hnews h1 h63 hbytes
    exact ⟨v', w', hr, fin (some g) _ v' w' rfl (fun k hk => by cases hk; exact h2) h7 hp⟩
/-- One element more, which the call has laid in a block of its own. -/
theorem run_append_oneN {P : Program} {t ty : TypeId} {i : TypeInfo} {z0 : Value} {bytes : Nat} (ht : P.underlying t = some (.slice e)) (hi : P.info? e = some i) (hz : i.zero = some z0)
    (hsize : i.size = z) (hby : i.bytes = bytes) (hzs : z0.cells.size = z) (h : SliceN w B e z v n xs) (hB : B ≤ w.heap.size) (us : List Value) (hu : us.length = z) (h1 : ∀ u ∈ us, u.oneCell' = true)
    (h63 : n + 1 ≤ maxLen) (hbytes : (n + 1) * bytes ≤ 140737488355328) :
    ∃ v' w', (Builtin.append_ #[t, t] ty #[v, .slice (some ⟨w.heap.size, 0, none⟩) 1 1]).run P (w.alloc (.cells us.toArray e)) = .ok v' w' ∧ SliceN w' B e z v' (n + 1) (xs ++ us) ∧ Chg (fun k => vblock v = some k) w w' ∧ (vblock v' = vblock v ∨ ∃ k, vblock v' = some k ∧ w.heap.size ≤ k) := by
  have hb : Below w.heap.size w (w.alloc (.cells us.toArray e)) := (Below.refl _ _).alloc (Nat.le_refl _) _
  obtain ⟨v', w', hr, h2, h3, h4⟩ := run_append_ownN (P := P) (ty := ty) ht hi hz hsize hby hzs (h.below hb) (by simp; omega) ⟨w.heap.size, 0, none⟩ 1 1 us (by omega) (by omega) (fun j x hx => by
    rw [Addr.add_lit, Nat.zero_add]
    refine cell_in (heap_new w _) ?_
    simpa using hx) h1 h63 hbytes
  exact ⟨v', w', hr, h2, (Chg.alloc (fun k => vblock v = some k) w _).trans h3 fun k hk _ => hk, h4.imp id fun ⟨k, e, hk⟩ => ⟨k, e, by simp at hk; omega⟩⟩
end
end Go.Proofs.YtlecnlnpgghmbaaGreatDoor

/- The book's marks: word, and the mark of a text. -/
namespace Go.Proofs.YtlecnlnpgghmbaaGreatDoor
set_option linter.unusedVariables false
set_option linter.unusedSimpArgs false
open Go.RowKit
def wordB (n : Nat) : ByteArray := ⟨#[35]⟩ ++ ⟨(Lib.itoa (n : Int)).toArray⟩
theorem itoa_len (n : Nat) (hn : n ≤ 1000000000) : (Lib.itoa (n : Int)).length ≤ 20 := by
  unfold Lib.itoa
  rw [if_neg (by omega), Lib.decDigits_length, Int.toNat_natCast]
  rcases Nat.eq_zero_or_pos n with h | h
  · subst h; rw [Lib.nDigits_small (by omega)]; omega
  · have := Lib.numDigits_eq n h (by omega); split at this <;> omega
set_option maxHeartbeats 800000 in
set_option maxRecDepth 100000 in
theorem word_any {w : World} (hl : Laid w) (n : Nat) (hn : n ≤ 1000000000) : Calls Tryz.prog 93 #[.int .i64 n] w fun e w' => e = .returned (.string (wordB n)) ∧ Below w.heap.size w w' := by
  have HIt := Lib.hid (Tryz.strconv_Itoa (n : Int) (by omega) (by omega) w hl.tab)
  obtain ⟨t, ht⟩ : ∃ t, t = wordB n := ⟨_, rfl⟩
  rw [← ht]
  have HT := Lib.hid (show ⟨#[35]⟩ ++ ⟨(Lib.itoa (n : Int)).toArray⟩ = t from ht.symm)
  have hsz := itoa_len n hn
  have hsz2 : (⟨(Lib.itoa (n : Int)).toArray⟩ : ByteArray).size ≤ 20 := by
    have e : (⟨(Lib.itoa (n : Int)).toArray⟩ : ByteArray).size = (Lib.itoa (n : Int)).length := by simp [ByteArray.size]
    omega
  clear ht hl
  go_enter Tryz.func93, Tryz.ntmps93
  go_wp2_with fail
  refine HIt.out.mono ?_
  rintro e w2 ⟨rfl, j, os, hw2⟩
  have HB := Lib.hid (show Below w.heap.size w w2 by rw [hw2]; exact Lib.below_grow _ w (Nat.le_refl _) j os)
  clear hw2
  go_wp2_with fail
  go_ret
  exact ⟨ret1 (by rw [← HT.out]; rfl), HB.out⟩
set_option maxHeartbeats 800000 in
set_option maxRecDepth 100000 in
theorem markText_any {w : World} (hl : Laid w) (n : Nat) (hn : n ≤ 1000000000) : Calls Tryz.prog 75 #[.int .i64 n] w fun e w' => e = .returned (.string (wordB n)) ∧ Below w.heap.size w w' := by
  have HW := Lib.hid (word_any hl n hn)
  generalize wordB n = t at *
  clear hl
  go_enter Tryz.func75, Tryz.ntmps75
  go_wp2_with fail
  refine HW.out.mono ?_
  rintro e w2 ⟨rfl, b2⟩
  have HB := Lib.hid b2
  clear b2
  go_wp2_with fail
  go_ret
  exact ⟨rfl, HB.out⟩
set_option maxHeartbeats 800000 in
set_option maxRecDepth 100000 in
theorem isText_any {w : World} (hl : Laid w) (n : Nat) (hn : n ≤ 1000000000) : Calls Tryz.prog 84 #[.string (wordB n), .int .i64 n] w fun e w' => e = .returned (.bool true) ∧ Below w.heap.size w w' := by
  have HW := Lib.hid (word_any hl n hn)
  generalize wordB n = t at *
  clear hl
  go_enter Tryz.func84, Tryz.ntmps84
  go_wp2_with fail
  refine HW.out.mono ?_
  rintro e w2 ⟨rfl, b2⟩
  have HB := Lib.hid b2
  clear b2
  go_wp2_with fail
  go_ret
  exact ⟨rfl, HB.out⟩
end Go.Proofs.YtlecnlnpgghmbaaGreatDoor

/- The book: a held list's cells, and a cell written. -/
namespace Go.Proofs.YtlecnlnpgghmbaaGreatDoor
set_option linter.unusedVariables false
set_option linter.unusedSimpArgs false
open Go.RowKit
/-- An element's cells so many times. -/
def rep (n : Nat) (us : List Value) : List Value := (List.replicate n us).flatten
theorem rep_zero (us : List Value) : rep 0 us = [] := rfl
theorem rep_succ (n : Nat) (us : List Value) : rep (n + 1) us = rep n us ++ us := by
  unfold rep
  rw [List.replicate_succ', List.flatten_append]; simp
theorem rep_length (n : Nat) (us : List Value) : (rep n us).length = n * us.length := by
  unfold rep
  rw [List.length_flatten]; simp
theorem rep_get (n : Nat) (us : List Value) {k j : Nat} (hk : k < n) (hj : j < us.length) : (rep n us).getD (k * us.length + j) undef = us.getD j undef := by
  induction n with
  | zero => omega
  | succ n ih =>
    have hl := rep_length n us
    simp only [List.getD] at ih ⊢
    rw [rep_succ]
    by_cases h : k < n
    · have : k * us.length + j < n * us.length := by
        have h1 : (k + 1) * us.length ≤ n * us.length := Nat.mul_le_mul_right _ h
        rw [Nat.add_mul] at h1
        omega
      rw [List.getElem?_append_left (by omega)]
      exact ih h
    · obtain rfl : k = n := by omega
      rw [List.getElem?_append_right (by omega), hl]
      congr 2
      omega
theorem take_mid {α : Type} (A us : List α) (p z N : Nat) (hu : us.length = z) (h1 : p + z ≤ N) (h2 : N ≤ A.length) : (A.take p ++ (us ++ A.drop (p + z))).take N = (A.take N).take p ++ us ++ (A.take N).drop (p + z) := by
  have hla : (A.take p).length = p := by rw [List.length_take]; omega
  have e1 : ((A.take p)).take N = A.take p := List.take_of_length_le (by omega)
  have e2 : us.take (N - p) = us := List.take_of_length_le (by omega)
  rw [List.take_append, hla, e1, List.take_append, hu, e2, List.take_take, Nat.min_eq_left (show p ≤ N by omega), List.drop_take, List.append_assoc, show N - p - z = N - (p + z) by omega]
/-- Stores over a row, from a place on. -/
theorem wrs_list2 (cur : Array Value) (a b c b' : List Value) (h : cur.toList = a ++ (b ++ c)) (hl : b'.length = b.length) : (wrs cur a.length b').toList = a ++ (b' ++ c) := by
  have : cur = (a ++ (b ++ c)).toArray := by rw [← h]
  rw [this, wrs_list b' b a c hl]
/-- An element of a slice is written. -/
theorem SliceN.write {w : World} {B : Nat} {e : TypeId} {z : Nat} {v : Value} {n : Nat} {xs : List Value} (h : SliceN w B e z v n xs) {k : Nat} (hk : k < n) (us : List Value) (hu : us.length = z) :
    ∃ g cap cur, v = .slice (some ⟨g, 0, none⟩) n cap ∧ RowAt w g e cur ∧ k * z + z ≤ cur.size ∧ SliceN (w.setRow g (wrs cur (k * z) us)) B e z v n (xs.take (k * z) ++ us ++ xs.drop (k * z + z)) := by
  rcases h.2 with ⟨rfl, rfl⟩ | ⟨g, cap, cur, rfl, h2, h3, h4, h5, h6, h7⟩
  · omega
  · have hkz : k * z + z ≤ n * z := by
      have := Nat.mul_le_mul_right z (show k + 1 ≤ n from hk)
      rw [Nat.add_mul] at this; omega
    have hcz : n * z ≤ cap * z := Nat.mul_le_mul_right z h5
    refine ⟨g, cap, cur, rfl, h3, by omega, ?_, .inr ⟨g, cap, _, rfl, h2, h3.setRow (by simp), by simpa using h4, h5, h6, ?_⟩⟩
    · simp only [List.length_append, List.length_take, List.length_drop, h.1, hu]; omega
    · have hcl : cur.toList.length = cap * z := by rw [Array.length_toList]; exact h4
      have e1 : cur.toList = cur.toList.take (k * z) ++ ((cur.toList.drop (k * z)).take z ++ cur.toList.drop (k * z + z)) := by
        rw [← List.drop_drop, List.take_append_drop, List.take_append_drop]
      have hla : (cur.toList.take (k * z)).length = k * z := by rw [List.length_take]; omega
      have e2 := wrs_list2 cur _ _ _ us e1 (by rw [hu, List.length_take, List.length_drop]; omega)
      rw [hla] at e2
      rw [e2, ← h7]
      exact take_mid _ _ _ _ _ hu hkz (by omega)
end Go.Proofs.YtlecnlnpgghmbaaGreatDoor

/- The book: fillText. -/
namespace Go.Proofs.YtlecnlnpgghmbaaGreatDoor
set_option linter.unusedVariables false
set_option linter.unusedSimpArgs false
open Go.RowKit
abbrev bkp (b : Nat) : Value := .pointer (some ⟨b, 0, none⟩)
/-- A list that a book holds: its slice value, what was grown of it, how long it is, its mark. -/
structure Held where
  v : Value
  g : Value
  n : Nat
  m : Nat
def heldC (E : List Held) : List Value := E.flatMap fun h => [h.v, h.g, .int .i64 h.m]
theorem heldC_length (E : List Held) : (heldC E).length = E.length * 3 := by
  unfold heldC
  induction E with
  | nil => rfl
  | cons h E ih => rw [List.flatMap_cons, List.length_append, ih]; simp; omega
theorem heldC_get : ∀ {E : List Held} {i : Nat} (hi : i < E.length), (heldC E).getD (i * 3) undef = E[i].v ∧ (heldC E).getD (i * 3 + 1) undef = E[i].g ∧ (heldC E).getD (i * 3 + 2) undef = .int .i64 E[i].m
  | h :: E, 0, _ => ⟨rfl, rfl, rfl⟩
  | h :: E, i + 1, hi => by
    have := heldC_get (E := E) (i := i) (by simpa using hi)
    have e : (i + 1) * 3 = i * 3 + 1 + 1 + 1 := by omega
    rw [e]
    exact this
/-- What a book needs of the lists of one kind. -/
structure Holds (w : World) (b : Nat) (I : Nat) (HT e : TypeId) (z : Nat) (tv : Value) (E : List Held) : Prop where
  head : ∃ cs, w.heap[b]? = some (.cells cs 50 (0, 0)) ∧ cs[I]? = some tv
  row : SliceN w 0 HT 3 tv E.length (heldC E)
  few : E.length ≤ 1000000
  small : ∀ h ∈ E, h.n ≤ 1000000000 ∧ h.m ≤ 1000000000
  got : ∀ h ∈ E, ∃ xs, SliceN w 0 e z h.v h.n xs
  apart : ∀ i j (hi : i < E.length) (hj : j < E.length), i ≠ j → ∀ k, vblock E[i].v = some k → vblock E[j].v ≠ some k
  offb : ∀ h ∈ E, vblock h.v ≠ some b
  offt : ∀ h ∈ E, ∀ k, vblock h.v = some k → vblock tv ≠ some k
def blocksV (E : List Held) (k : Nat) : Prop := ∃ h ∈ E, vblock h.v = some k
end Go.Proofs.YtlecnlnpgghmbaaGreatDoor

/- The book: fillText. -/
namespace Go.Proofs.YtlecnlnpgghmbaaGreatDoor
set_option linter.unusedVariables false
set_option linter.unusedSimpArgs false
open Go.RowKit
abbrev markT (m : Nat) : List Value := [.string (wordB m)]
/-- What stands for the old world that the base names. -/
structure Base (w0 w : World) : Prop where
  laid : Laid w0
  bel : Below w0.heap.size w0 w
theorem Base.now {w0 w : World} (h : Base w0 w) : Laid w := h.laid.below h.bel
theorem Base.chg {w0 w w' : World} (h : Base w0 w) {S : Nat → Prop} (hc : Chg S w w') (hs : ∀ k, S k → w0.heap.size ≤ k) : Base w0 w' := ⟨h.laid, belowChg h.bel hc h.bel.size fun k hk _ => hs k hk⟩
theorem Base.below {w0 w w' : World} (h : Base w0 w) (hb : Below w.heap.size w w') : Base w0 w' := ⟨h.laid, h.bel.trans (hb.mono h.bel.size)⟩
set_option maxHeartbeats 3200000 in
set_option maxRecDepth 100000 in
theorem fillText_any {w0 w : World} (hB : Base w0 w) {b : Nat} {tv : Value} {E : List Held} (h : Holds w b 3 85 9 1 tv E) (hE : ∀ k, blocksV E k → w0.heap.size ≤ k) (hg : ∀ h ∈ E, h.g = .slice none 0 0) :
    Calls Tryz.prog 43 #[bkp b] w fun e w' => (∃ v, e = .returned v) ∧ (∀ h ∈ E, SliceN w' 0 9 1 h.v h.n (rep h.n (markT h.m))) ∧ Chg (blocksV E) w w' := by
  obtain ⟨N, hN⟩ : ∃ N, N = E.length := ⟨_, rfl⟩
  obtain ⟨ta, tc, rfl, htc, _⟩ := h.row.form
  rw [← hN] at htc
  have hN6 : N ≤ 1000000 := by have := h.few; omega
  have HH := Lib.hid h
  have HB := Lib.hid hB
  have HE := Lib.hid hE
  have HG := Lib.hid hg
  have HN := Lib.hid hN
  obtain ⟨cs, hcs, hci⟩ := h.head
  rw [← hN] at hci
  have HCs := Lib.hid (And.intro hcs hci)
  have x0 := cell_in hcs hci
  clear h hB hE hg hN hcs hci
  go_enter Tryz.func43, Tryz.ntmps43
  go_wp2_with fail
  go_loopw [2] (fun i wr => ∃ k : Nat, k ≤ N ∧ i = .int .i64 k ∧ Hid ((∀ j (hj : j < E.length), (j < k → SliceN wr 0 9 1 E[j].v E[j].n (rep E[j].n (markT E[j].m))) ∧ ∃ xs, SliceN wr 0 9 1 E[j].v E[j].n xs) ∧ Chg (blocksV E) w wr)) (fun i _ => N - (intOf i).toNat)
  case atStart => exact ⟨0, Nat.zero_le _, rfl, Lib.hid ⟨fun j hj => ⟨fun h => absurd h (by omega), HH.out.got _ (List.getElem_mem hj)⟩, Chg.refl _ _⟩⟩
  case round =>
    obtain ⟨k, hk, rfl, hI⟩ := hrel
    obtain ⟨wo, rfl⟩ : ∃ wo, wo = wr := ⟨_, rfl⟩
    have hcb : wo.heap[b]? = some (.cells cs 50 (0, 0)) := hI.out.2.keep HCs.out.1 fun ⟨h, hh, e⟩ => HH.out.offb h hh e
    have xr := cell_in hcb HCs.out.2
    by_cases hlt : k < N
    · have hkE : k < E.length := by rw [← HN.out]; exact hlt
      obtain ⟨v0, hv0⟩ : ∃ v0, v0 = E[k].v := ⟨_, rfl⟩
      obtain ⟨n, hn⟩ : ∃ n, n = E[k].n := ⟨_, rfl⟩
      obtain ⟨m, hm⟩ : ∃ m, m = E[k].m := ⟨_, rfl⟩
      have hmem : E[k] ∈ E := List.getElem_mem hkE
      have hsm := HH.out.small _ hmem
      rw [← hn, ← hm] at hsm
      obtain ⟨hn9, hm9⟩ := hsm
      obtain ⟨xs, hxs⟩ := (hI.out.1 k hkE).2
      rw [← hv0, ← hn] at hxs
      obtain ⟨va, vc, rfl, hvc, _⟩ := hxs.form
      have hrow := HH.out.row.chg hI.out.2 fun j hj ⟨h, hh, e⟩ => HH.out.offt h hh j e hj
      rw [← HN.out] at hrow
      obtain ⟨tg, hta⟩ : ∃ tg, ta = some ⟨tg, 0, none⟩ := by
        rcases hrow.2 with ⟨e, hz⟩ | ⟨g, cap, cur, e, _⟩
        · omega
        · cases e; exact ⟨g, rfl⟩
      subst hta
      obtain ⟨g1, g2, g3⟩ := heldC_get hkE
      have y0 := hrow.cell rfl (i := k * 3) (by omega)
      have y1 := hrow.cell rfl (i := k * 3 + 1) (by omega)
      have y2 := hrow.cell rfl (i := k * 3 + 2) (by omega)
      rw [g1, ← hv0] at y0
      rw [g2, HG.out _ hmem] at y1
      rw [g3, ← hm] at y2
      obtain ⟨w4, hw4⟩ : ∃ w4, w4 = wo.alloc (.cells #[.slice va n vc, .slice none 0 0, .int .i64 m] 85) := ⟨_, rfl⟩
      have hb4 : w4.heap[wo.heap.size]? = some (.cells #[.slice va n vc, .slice none 0 0, .int .i64 m] 85 (0, 0)) := by rw [hw4]; exact heap_new _ _
      have hbl4 : Below wo.heap.size wo w4 := by rw [hw4]; exact (Below.refl _ _).alloc (Nat.le_refl _) _
      have z0 := cell_in hb4 (i := 0) rfl
      have hbv : ∀ j, vblock (.slice va n vc) = some j → blocksV E j := fun j hj => ⟨E[k], hmem, by rw [← hv0]; exact hj⟩
      have HX := Lib.hid (show SliceN w4 0 9 1 (.slice va n vc) n xs ∧ (∀ j, vblock (.slice va n vc) = some j → j < wo.heap.size) ∧ Base w0 w4 from ⟨hxs.below hbl4, fun j hj => (hxs.block_lt hj).2, (HB.out.chg hI.out.2 HE.out).below hbl4⟩)
      have HBv := Lib.hid (And.intro hbv (And.intro hb4 hbl4))
      have HE3 := Lib.hid (And.intro hv0 (And.intro hn hm))
      have HW4 := Lib.hid hw4
      clear hxs hrow g1 g2 g3 hv0 hn hm hw4 hb4 hbl4 hbv hmem
      go_wp2_with fail
      rw [← HW4.out]
      go_loopw [4] (fun j wq => ∃ q : Nat, q ≤ n ∧ j = .int .i64 q ∧ Hid ((∃ ys, SliceN wq 0 9 1 (.slice va n vc) n (rep q (markT m) ++ ys)) ∧ Chg (fun x => vblock (.slice va n vc) = some x) w4 wq)) (fun j _ => n - (intOf j).toNat)
      case atStart => exact ⟨0, Nat.zero_le _, rfl, Lib.hid ⟨⟨xs, HX.out.1⟩, Chg.refl _ _⟩⟩
      case round =>
        obtain ⟨q, hq, rfl, hJ⟩ := hrel
        obtain ⟨⟨ys, hys⟩, hC⟩ := hJ.out
        have hB2 := HX.out.2.2.chg hC fun j hj => HE.out j (HBv.out.1 j hj)
        have hbd : Below wr.heap.size wr wr.drew := belowN (Below.refl _ _) 1
        have hh : wr.heap[wo.heap.size]? = some (.cells #[.slice va n vc, .slice none 0 0, .int .i64 m] 85 (0, 0)) := hC.keep HBv.out.2.1 fun e => by have := HX.out.2.1 _ e; omega
        have c0 := cell_in hh (i := 0) rfl
        have c2 := cell_in hh (i := 2) rfl
        by_cases hlq : q < n
        · have hd0 : wr.drew.cell? ⟨wo.heap.size, 0, none⟩ = some (.slice va n vc) := c0
          have hd2 : wr.drew.cell? ⟨wo.heap.size, 2, none⟩ = some (.int .i64 m) := c2
          obtain ⟨X1, f, hX1, hff, hF⟩ := classOf (fun y => y.cell? ⟨wo.heap.size, 0, none⟩ = some (.slice va n vc) ∧ y.cell? ⟨wo.heap.size, 2, none⟩ = some (.int .i64 m)) (w := wr.drew) ⟨hd0, hd2⟩
          have hf0 := fun x => (hff x).1
          have hf2 := fun x => (hff x).2
          have H0 := Lib.hid (hF wr.drew ⟨hd0, hd2⟩)
          have HM := Lib.hid (markText_any (hB2.below hbd).now m hm9)
          have HJ2 := Lib.hid (And.intro hys (And.intro hC (And.intro hB2 hh)))
          have HFc := Lib.hid hF
          clear hJ hys hC hB2 hh hff hF hd0 hd2
          go_wp2_with fail
          refine wp_region_text ⟨[5, 7], [], 7⟩ (fun w' => ∃ x : X1, w' = f x) (by kernel_rfl) (by kernel_rfl) H0.out ?_
          refine wpC_seg false (H0.out) 5 0 _ _ (by rfl) (by rfl) ?_
          simp only [List.take_succ_cons, List.take_zero, List.drop_succ_cons, List.drop_zero, Bool.false_eq_true, if_false, Nat.zero_add, Nat.reduceAdd]
          repeat (go_big_quiet_step (fail))
          refine wpQuiet_nil ?_
          refine wpC_loud (by rfl) (by rfl) fun K hK => ?_
          go_wp2_with fail
          refine HM.out.mono ?_
          rintro e w5 ⟨rfl, b5⟩
          have hb5 : Below wr.heap.size wr w5 := hbd.trans b5
          obtain ⟨g, cap, cur, ev, hrow5, hroom, hs6⟩ := (HJ2.out.1.below hb5).write hlq (markT m) rfl
          cases ev
          have hh5 : w5.heap[wo.heap.size]? = some (.cells #[.slice (some ⟨g, 0, none⟩) n vc, .slice none 0 0, .int .i64 m] 85 (0, 0)) := (Chg.of_below (fun _ => False) hb5).keep HJ2.out.2.2.2 id
          have H5 := Lib.hid (HFc.out w5 ⟨cell_in hh5 (i := 0) rfl, cell_in hh5 (i := 2) rfl⟩)
          obtain ⟨w6, hw6⟩ : ∃ w6, w6 = w5.setCell ⟨g, q, none⟩ (.string (wordB m)) := ⟨_, rfl⟩
          have e6 : w6 = w5.setRow g (wrs cur (q * 1) (markT m)) := by rw [hw6, hrow5.setCell, Nat.mul_one]; rfl
          have x5 : w5.cell? ⟨g, q, none⟩ = some (cur.getD q undef) := hrow5.cell (by rw [Array.getD_eq_getD_getElem?, Array.getElem?_eq_getElem (by omega)]; rfl)
          have f5 := hrow5.free (i := q) (by omega)
          have HS := Lib.hid (show (∃ ys, SliceN w6 0 9 1 (.slice (some ⟨g, 0, none⟩) n vc) n (rep (q + 1) (markT m) ++ ys)) ∧ Chg (fun x => vblock (.slice (some ⟨g, 0, none⟩) n vc) = some x) w4 w6 from by
            refine ⟨⟨ys.drop 1, ?_⟩, ?_⟩
            · rw [← e6] at hs6
              have hl := rep_length q (markT m)
              have e : (rep q (markT m) ++ ys).take (q * 1) ++ markT m ++ (rep q (markT m) ++ ys).drop (q * 1 + 1) = rep (q + 1) (markT m) ++ ys.drop 1 := by
                have hl2 : (rep q (markT m)).length = q * 1 := hl
                rw [rep_succ, List.take_left' hl2, ← List.drop_drop, List.drop_left' hl2]
              rw [e] at hs6
              exact hs6
            · exact (HJ2.out.2.1.trans (Chg.of_below _ hb5) fun j hj _ => hj).trans (by rw [hw6]; exact Chg.setCell (fun x => vblock (.slice (some ⟨g, 0, none⟩) n vc) = some x) w5 ⟨g, q, none⟩ _ rfl) fun j hj _ => hj)
          have HW6 := Lib.hid hw6
          clear hs6 hrow5 hw6 e6 b5 hb5 hh5
          refine hK _ _ (fun _ => H5.out) ?_
          clear hK
          refine wpC_seg false (H5.out) 1 6 _ _ (by rfl) (by rfl) ?_
          simp only [List.take_succ_cons, List.take_zero, List.drop_succ_cons, List.drop_zero, Bool.false_eq_true, if_false, Nat.zero_add, Nat.reduceAdd]
          repeat (go_big_quiet_step (fail))
          refine wpQuiet_nil ?_
          refine wpC_loud (by rfl) (by rfl) fun K hK => ?_
          go_wp2_with fail
          rw [← HW6.out]
          refine hK _ _ (fun h => absurd h (by decide)) ?_
          clear hK
          refine wpC_nil ?_
          clear hf0 hf2 hX1 H0 H5
          go_wp2_with fail
          go_roundw
          case rel => exact ⟨q + 1, by omega, by go_num, HS⟩
          case measure => simp [intOf]; omega
        · obtain rfl : q = n := by omega
          have HS := Lib.hid (show (∀ j (hj : j < E.length), (j < k + 1 → SliceN wr 0 9 1 E[j].v E[j].n (rep E[j].n (markT E[j].m))) ∧ ∃ xs, SliceN wr 0 9 1 E[j].v E[j].n xs) ∧ Chg (blocksV E) w wr by
            obtain ⟨hv0, hn, hm⟩ := HE3.out
            have hyl : ys = [] := by
              have h1 := hys.1
              have h2 := rep_length q (markT m)
              rw [List.length_append, h2] at h1
              exact List.eq_nil_of_length_eq_zero (by have : q * (markT m).length = q * 1 := rfl; omega)
            rw [hyl, List.append_nil] at hys
            have hcw : Chg (fun x => vblock (.slice va q vc) = some x) wo wr := (Chg.of_below _ HBv.out.2.2).trans hC fun j hj _ => hj
            refine ⟨fun j hj => ?_, hI.out.2.trans hcw fun j hj _ => HBv.out.1 j hj⟩
            by_cases hjk : j = k
            · subst hjk
              rw [← hv0, ← hn, ← hm]
              exact ⟨fun _ => hys, _, hys⟩
            · obtain ⟨h1, ⟨xs1, h2⟩⟩ := hI.out.1 j hj
              have hap : ∀ x, vblock E[j].v = some x → ¬ vblock (.slice va q vc) = some x := fun x hx hy => HH.out.apart j k hj hkE hjk x hx (by rw [← hv0]; exact hy)
              exact ⟨fun hlt2 => (h1 (by omega)).chg hcw hap, xs1, h2.chg hcw hap⟩)
          clear hJ hys hC hB2 hh
          go_wp2_with fail
          go_roundw
          case rel => exact ⟨k + 1, by omega, by go_num, HS⟩
          case measure => simp [intOf]; omega
    · obtain rfl : k = N := by omega
      have HS := Lib.hid (show (∀ h ∈ E, SliceN wo 0 9 1 h.v h.n (rep h.n (markT h.m))) ∧ Chg (blocksV E) w wo from
        ⟨fun h hh => by
          obtain ⟨j, hj, rfl⟩ := List.getElem_of_mem hh
          exact (hI.out.1 j hj).1 (by rw [HN.out]; exact hj), hI.out.2⟩)
      clear hI
      go_wp2_with fail
      go_end0
      exact ⟨⟨_, rfl⟩, HS.out⟩
end Go.Proofs.YtlecnlnpgghmbaaGreatDoor

/- The book: lists that only read; append with what it leaves alone; a held list's cell written. -/
namespace Go.Proofs.YtlecnlnpgghmbaaGreatDoor
set_option linter.unusedVariables false
set_option linter.unusedSimpArgs false
open Go.RowKit
/-- The elements of a slice read so. -/
def Reads (w : World) (z : Nat) (v : Value) (n : Nat) (xs : List Value) : Prop :=
  (v = .slice none 0 0 ∧ n = 0) ∨ ∃ g cap, v = .slice (some ⟨g, 0, none⟩) n cap ∧ n ≤ cap ∧ cap ≤ maxLen ∧ ∀ i, i < n * z → w.cell? ⟨g, i, none⟩ = some (xs.getD i undef)
theorem SliceN.reads {w : World} {B : Nat} {e : TypeId} {z : Nat} {v : Value} {n : Nat} {xs : List Value} (h : SliceN w B e z v n xs) : Reads w z v n xs := by
  rcases h.2 with ⟨rfl, rfl⟩ | ⟨g, cap, cur, rfl, h2, h3, h4, h5, h6, h7⟩
  · exact .inl ⟨rfl, rfl⟩
  · exact .inr ⟨g, cap, rfl, h5, h6, fun i hi => h.cell rfl hi⟩
theorem cell_chg {w w' : World} {S : Nat → Prop} (hc : Chg S w w') {b i : Nat} {v : Value} (h : w.cell? ⟨b, i, none⟩ = some v) (hn : ¬ S b) : w'.cell? ⟨b, i, none⟩ = some v := by
  have := hc.block b (World.block_lt_of_cell? w _ h) hn
  rw [← h]
  simp only [World.cell?, this]
theorem Reads.chg {w w' : World} {z : Nat} {v : Value} {n : Nat} {xs : List Value} (h : Reads w z v n xs) {S : Nat → Prop} (hc : Chg S w w') (hn : ∀ k, vblock v = some k → ¬ S k) : Reads w' z v n xs := by
  rcases h with h | ⟨g, cap, rfl, h1, h2, h3⟩
  · exact .inl h
  · exact .inr ⟨g, cap, rfl, h1, h2, fun i hi => cell_chg hc (h3 i hi) (hn g rfl)⟩
theorem Reads.form {w : World} {z : Nat} {v : Value} {n : Nat} {xs : List Value} (h : Reads w z v n xs) : ∃ a cap, v = .slice a n cap ∧ n ≤ cap ∧ cap ≤ maxLen := by
  rcases h with ⟨rfl, rfl⟩ | ⟨g, cap, rfl, h1, h2, _⟩
  · exact ⟨none, 0, rfl, Nat.le_refl _, by unfold maxLen; omega⟩
  · exact ⟨_, cap, rfl, h1, h2⟩
theorem Reads.get {w : World} {z : Nat} {v : Value} {n : Nat} {xs : List Value} (h : Reads w z v n xs) {i : Nat} (hi : i < n * z) : ∃ g cap, v = .slice (some ⟨g, 0, none⟩) n cap ∧ w.cell? ⟨g, i, none⟩ = some (xs.getD i undef) := by
  rcases h with ⟨rfl, rfl⟩ | ⟨g, cap, rfl, h1, h2, h3⟩
  · omega
  · exact ⟨g, cap, rfl, h3 i hi⟩
theorem rep_prefix (n j : Nat) (us : List Value) {i : Nat} (hi : i < n * us.length) : (rep (n + j) us).getD i undef = (rep n us).getD i undef := by
  induction j with
  | zero => rfl
  | succ j ih =>
    rw [← ih, ← Nat.add_assoc, rep_succ]
    have hl := rep_length (n + j) us
    have : n * us.length ≤ (n + j) * us.length := Nat.mul_le_mul_right _ (by omega)
    simp only [List.getD]
    rw [List.getElem?_append_left (by omega)]
/-- One element more: only the row that the value stays in may have been written. -/
theorem run_append_oneK {w : World} {B : Nat} {e : TypeId} {z : Nat} {v : Value} {n : Nat} {xs : List Value} {P : Program} {t ty : TypeId} {i : TypeInfo} {z0 : Value} {bytes : Nat} (ht : P.underlying t = some (.slice e)) (hi : P.info? e = some i) (hz : i.zero = some z0)
    (hsize : i.size = z) (hby : i.bytes = bytes) (hzs : z0.cells.size = z) (h : SliceN w B e z v n xs) (hB : B ≤ w.heap.size) (us : List Value) (hu : us.length = z) (h1 : ∀ u ∈ us, u.oneCell' = true)
    (h63 : n + 1 ≤ maxLen) (hbytes : (n + 1) * bytes ≤ 140737488355328) :
    ∃ v' w', (Builtin.append_ #[t, t] ty #[v, .slice (some ⟨w.heap.size, 0, none⟩) 1 1]).run P (w.alloc (.cells us.toArray e)) = .ok v' w' ∧ SliceN w' B e z v' (n + 1) (xs ++ us) ∧ Chg (fun k => vblock v = some k ∧ vblock v' = some k) w w' ∧ (vblock v' = vblock v ∨ ∃ k, vblock v' = some k ∧ w.heap.size ≤ k) := by
  obtain ⟨w1, hw1⟩ : ∃ w1, w1 = w.alloc (.cells us.toArray e) := ⟨_, rfl⟩
  have hb1 : Below w.heap.size w w1 := by rw [hw1]; exact (Below.refl _ _).alloc (Nat.le_refl _) _
  have hs1 : w1.heap.size = w.heap.size + 1 := by rw [hw1]; simp
  have hnews : ∀ j u, us[j]? = some u → w1.cell? ((⟨w.heap.size, 0, none⟩ : Addr).add j) = some u := fun j x hx => by
    rw [Addr.add_lit, Nat.zero_add, hw1]
    refine cell_in (heap_new w _) ?_
    simpa using hx
  have h' := h.below hb1
  rw [← hw1]
  have moved : ∀ v' w', Appended w1 e z none xs us (n + 1) v' w' → SliceN w' B e z v' (n + 1) (xs ++ us) ∧ Chg (fun k => vblock v = some k ∧ vblock v' = some k) w w' ∧ (vblock v' = vblock v ∨ ∃ k, vblock v' = some k ∧ w.heap.size ≤ k) := by
    rintro v' w' ⟨g', cap', cur', rfl, q1, q2, q3, q4, q5, q6, q7⟩
    have hg' : w1.heap.size ≤ g' := q6.resolve_left (by simp)
    refine ⟨⟨by rw [List.length_append, h.1, hu, Nat.add_mul, Nat.one_mul], .inr ⟨g', cap', cur', rfl, by omega, q1, q2, q3, q4, q5⟩⟩, (Chg.of_below _ hb1).trans q7 fun k hk _ => by simp at hk, .inr ⟨g', rfl, by omega⟩⟩
  rcases h'.2 with ⟨rfl, rfl⟩ | ⟨g, cap, cur, rfl, h2, h3, h4, h5, h6, h7⟩
  · have hx : xs = [] := List.eq_nil_of_length_eq_zero (by rw [h.1]; simp)
    obtain ⟨v', w', hr, hp⟩ := run_append_row_nil (P := P) w1 t ty e i z0 z bytes ht hi hz hsize hby hzs ⟨w.heap.size, 0, none⟩ 1 1 us (by omega) (by omega) hnews (by omega) (by simpa using hbytes)
    exact ⟨v', w', hr, moved v' w' (by rw [hx]; exact hp)⟩
  · by_cases hroom : n + 1 ≤ cap
    · obtain ⟨v', w', hr, g', cap', cur', e1, q1, q2, q3, q4, q5, q6, q7⟩ := run_append_row (P := P) w1 t ty e i z0 z bytes ht hi hz hsize hby hzs g n cap cur h3 h4 h5 h6 ⟨w.heap.size, 0, none⟩ 1 1 us (by omega) hnews h1 h63 hbytes
      subst hsize
      have hfit : n * i.size + us.length ≤ cur.size := by
        have := Nat.mul_le_mul_right i.size hroom
        rw [Nat.add_mul] at this; omega
      have hf := run_firstCells_some (P := P) w1 i.size 1 ⟨w.heap.size, 0, none⟩ 1 1 us (by omega) hnews
      have hst := run_storeCells_row (P := P) g (n * i.size) e us 0 cur w1 h3 (by simpa using hfit) h1
      simp only [Nat.add_zero] at hst
      have hr2 : (Builtin.append_ #[t, t] ty #[.slice (some ⟨g, 0, none⟩) n cap, .slice (some ⟨w.heap.size, 0, none⟩) 1 1]).run P w1 =
        .ok (.slice (some ⟨g, 0, none⟩) (n + 1) cap) (w1.setRow g (cur.toList.take (n * i.size) ++ us ++ cur.toList.drop (n * i.size + us.length)).toArray) := by
        simp [Builtin.append_, run_underlying ht, sizeOf, typeInfo, hi, Builtin.lenOf, hroom, hf, Addr.add_lit, hst]
      rw [hr] at hr2
      injection hr2 with hv hw
      refine ⟨v', w', hr, ⟨by rw [List.length_append, h.1, hu, Nat.add_mul, Nat.one_mul], .inr ⟨g', cap', cur', e1, ?_, q1, q2, q3, q4, by rw [q5, h7]⟩⟩, ?_, ?_⟩
      · rw [e1] at hv; cases hv; exact h2
      · rw [hv]
        exact (Chg.of_below _ hb1).trans q7 fun k hk _ => by cases hk; exact ⟨rfl, rfl⟩
      · rw [hv]; exact .inl rfl
    · subst hsize
      have hol : (cur.toList.take (n * i.size)).length = n * i.size := by
        rw [List.length_take, Array.length_toList, h4, Nat.min_eq_left (Nat.mul_le_mul_right _ h5)]
      have holds : ∀ j u, (cur.toList.take (n * i.size))[j]? = some u → w1.cell? ((⟨g, 0, none⟩ : Addr).add j) = some u := fun j u hu => by
        rw [Addr.add_lit, Nat.zero_add]
        refine h3.cell ?_
        rw [List.getElem?_take] at hu
        split at hu
        · simpa using hu
        · cases hu
      subst hby
      have hr := run_append_grow (P := P) w1 t ty e i z0 ht hi hz ⟨g, 0, none⟩ n cap _ hol holds ⟨w.heap.size, 0, none⟩ 1 1 us (by omega) hnews (by omega) (by simp only [maxLen] at h63; omega) (growslice_fits (by omega) hbytes)
      have hlen : (cur.toList.take (n * i.size) ++ us).length = (n + 1) * i.size := by rw [List.length_append, hol, hu, Nat.add_mul, Nat.one_mul]
      refine ⟨_, _, hr, moved _ _ ?_⟩
      have := append_grown w1 none e i.size z0 hzs _ _ _ cap hlen h63
      rw [h7] at this ⊢
      exact this
/-- A cell of a slice is written. -/
theorem SliceN.put {w : World} {B : Nat} {e : TypeId} {z : Nat} {v : Value} {n : Nat} {xs : List Value} (h : SliceN w B e z v n xs) {g c m : Nat} (hv : v = .slice (some ⟨g, 0, none⟩) m c) {p : Nat} (hp : p < n * z) (u : Value) :
    SliceN (w.setCell ⟨g, p, none⟩ u) B e z v n (xs.set p u) ∧ w.frozen? ⟨g, p, none⟩ = false := by
  rcases h.2 with ⟨rfl, rfl⟩ | ⟨g', cap, cur, rfl, h2, h3, h4, h5, h6, h7⟩
  · cases hv
  · cases hv
    have hcz := Nat.mul_le_mul_right z h5
    refine ⟨⟨by rw [List.length_set]; exact h.1, .inr ⟨g, c, cur.setIfInBounds p u, rfl, h2, by rw [h3.setCell]; exact h3.setRow (by simp), by simpa using h4, h5, h6, ?_⟩⟩, h3.free (by omega)⟩
    rw [← h7, Array.toList_setIfInBounds, List.take_set]
theorem heldC_set : ∀ {E : List Held} {k : Nat} (hk : k < E.length) (g : Value), heldC (E.set k { E[k] with g := g }) = (heldC E).set (k * 3 + 1) g
  | h :: E, 0, _, g => rfl
  | h :: E, k + 1, hk, g => by
    have ih := heldC_set (E := E) (k := k) (by simpa using hk) g
    have e : (k + 1) * 3 + 1 = (k * 3 + 1) + 1 + 1 + 1 := by omega
    rw [e]
    show h.v :: h.g :: .int .i64 h.m :: heldC (E.set k _) = h.v :: h.g :: .int .i64 h.m :: (heldC E).set (k * 3 + 1) g
    rw [← ih]
    rfl
end Go.Proofs.YtlecnlnpgghmbaaGreatDoor

/- The book: growText. -/
namespace Go.Proofs.YtlecnlnpgghmbaaGreatDoor
set_option linter.unusedVariables false
set_option linter.unusedSimpArgs false
open Go.RowKit
theorem info_strB : (Tryz.prog.info? 9).map (fun i => (i.zero, i.size, i.bytes)) = some (some (.string ByteArray.empty), 1, 16) := by kernel_rfl
/-- What a book has of the lists of one kind behind its growing. -/
structure Grown (w : World) (b : Nat) (I : Nat) (HT : TypeId) (z : Nat) (mk : Nat → List Value) (tv : Value) (E : List Held) : Prop where
  head : ∃ cs, w.heap[b]? = some (.cells cs 50 (0, 0)) ∧ cs[I]? = some tv
  row : SliceN w 0 HT 3 tv E.length (heldC E)
  few : E.length ≤ 1000000
  small : ∀ h ∈ E, h.n ≤ 1000000000 ∧ h.m ≤ 1000000000
  got : ∀ h ∈ E, Reads w z h.v h.n (rep h.n (mk h.m)) ∧ Reads w z h.g (h.n + 70) (rep (h.n + 70) (mk h.m))
/-- Alike but for what was grown. -/
def Agree (E E' : List Held) : Prop := E'.length = E.length ∧ ∀ j (h1 : j < E.length) (h2 : j < E'.length), E'[j].v = E[j].v ∧ E'[j].n = E[j].n ∧ E'[j].m = E[j].m
theorem Agree.refl (E : List Held) : Agree E E := ⟨rfl, fun _ _ _ => ⟨rfl, rfl, rfl⟩⟩
theorem Agree.set {E E' : List Held} (h : Agree E E') {k : Nat} (hk : k < E'.length) (g : Value) : Agree E (E'.set k { E'[k] with g := g }) := by
  refine ⟨by rw [List.length_set]; exact h.1, fun j h1 h2 => ?_⟩
  have h2' : j < E'.length := by rw [List.length_set] at h2; exact h2
  have := h.2 j h1 h2'
  rw [List.getElem_set]
  split
  · rename_i e; subst e; exact this
  · exact this
/-- Between two rounds of a growing. -/
structure Grew (w0 w : World) (e HT : TypeId) (z : Nat) (mk : Nat → List Value) (tv : Value) (E E' : List Held) (k : Nat) (wr : World) : Prop where
  agree : Agree E E'
  row : SliceN wr 0 HT 3 tv E'.length (heldC E')
  old : ∀ j (h1 : j < E.length) (h2 : j < E'.length), j < k → Reads wr z E[j].v E[j].n (rep E[j].n (mk E[j].m)) ∧ Reads wr z E'[j].g (E[j].n + 70) (rep (E[j].n + 70) (mk E[j].m)) ∧ (vblock E'[j].g = vblock E[j].v ∨ ∃ x, vblock E'[j].g = some x ∧ w.heap.size ≤ x)
  new : ∀ j (h1 : j < E.length) (h2 : j < E'.length), k ≤ j → E'[j].g = .slice none 0 0 ∧ SliceN wr 0 e z E[j].v E[j].n (rep E[j].n (mk E[j].m))
  chg : Chg (fun x => blocksV E x ∨ vblock tv = some x) w wr
set_option maxHeartbeats 6400000 in
set_option maxRecDepth 100000 in
theorem growText_any {w0 w : World} (hB : Base w0 w) {b : Nat} {tv : Value} {E : List Held} (h : Holds w b 3 85 9 1 tv E) (hE : ∀ k, blocksV E k → w0.heap.size ≤ k) (hg : ∀ h ∈ E, h.g = .slice none 0 0)
    (hm : ∀ h ∈ E, SliceN w 0 9 1 h.v h.n (rep h.n (markT h.m))) (htv : ∀ k, vblock tv = some k → w0.heap.size ≤ k) (hbt : vblock tv ≠ some b) :
    Calls Tryz.prog 52 #[bkp b] w fun e w' => (∃ v, e = .returned v) ∧ (∃ E', Grown w' b 3 85 1 markT tv E') ∧ Chg (fun x => blocksV E x ∨ vblock tv = some x) w w' := by
  obtain ⟨N, hN⟩ : ∃ N, N = E.length := ⟨_, rfl⟩
  obtain ⟨ta, tc, rfl, htc, _⟩ := h.row.form
  rw [← hN] at htc
  have hN6 : N ≤ 1000000 := by have := h.few; omega
  have HH := Lib.hid h
  have HB := Lib.hid hB
  have HE := Lib.hid (And.intro hE htv)
  have HM := Lib.hid hm
  have HN := Lib.hid hN
  have HBt := Lib.hid hbt
  have HLt := Lib.hid (show ∀ x, blocksV E x ∨ vblock (.slice ta E.length tc) = some x → x < w.heap.size by
    rintro x (⟨h1, hh, e⟩ | hx)
    · exact ((hm h1 hh).block_lt e).2
    · exact (h.row.block_lt hx).2)
  obtain ⟨cs, hcs, hci⟩ := h.head
  have hcsb : ¬ (blocksV E b ∨ vblock (.slice ta E.length tc) = some b) := by
    rintro (⟨h1, hh, e⟩ | hx)
    · exact h.offb h1 hh e
    · exact hbt hx
  rw [← hN] at hci
  have HCs := Lib.hid (And.intro hcs (And.intro hci hcsb))
  have HS0 := Lib.hid (show Grew w0 w 9 85 1 markT (.slice ta E.length tc) E E 0 w from ⟨Agree.refl E, h.row, fun _ _ _ h => by omega, fun j h1 _ _ => ⟨hg _ (List.getElem_mem h1), hm _ (List.getElem_mem h1)⟩, Chg.refl _ _⟩)
  clear h hB hE hg hm htv hN hcs hci hbt hcsb
  go_enter Tryz.func52, Tryz.ntmps52
  go_wp2_with fail
  go_loopw [2] (fun i wr => ∃ k : Nat, k ≤ N ∧ i = .int .i64 k ∧ Hid (∃ E', Grew w0 w 9 85 1 markT (.slice ta E.length tc) E E' k wr)) (fun i _ => N - (intOf i).toNat)
  case atStart => exact ⟨0, Nat.zero_le _, rfl, Lib.hid ⟨E, HS0.out⟩⟩
  case round =>
    obtain ⟨k, hk, rfl, hI⟩ := hrel
    obtain ⟨wo, rfl⟩ : ∃ wo, wo = wr := ⟨_, rfl⟩
    obtain ⟨E', hE'⟩ := hI.out
    have hcb : wo.heap[b]? = some (.cells cs 50 (0, 0)) := hE'.chg.keep HCs.out.1 HCs.out.2.2
    have xr := cell_in hcb HCs.out.2.1
    by_cases hlt : k < N
    · have hkE : k < E.length := by rw [← HN.out]; exact hlt
      have hkE' : k < E'.length := by rw [hE'.agree.1]; exact hkE
      obtain ⟨v0, hv0⟩ : ∃ v0, v0 = E[k].v := ⟨_, rfl⟩
      obtain ⟨n, hn⟩ : ∃ n, n = E[k].n := ⟨_, rfl⟩
      obtain ⟨m, hm⟩ : ∃ m, m = E[k].m := ⟨_, rfl⟩
      have hmem : E[k] ∈ E := List.getElem_mem hkE
      have hsm := HH.out.small _ hmem
      rw [← hn, ← hm] at hsm
      obtain ⟨hn9, hm9⟩ := hsm
      obtain ⟨hgn, hxs⟩ := hE'.new k hkE hkE' (Nat.le_refl _)
      rw [← hv0, ← hn, ← hm] at hxs
      obtain ⟨va, vc, rfl, hvc, _⟩ := hxs.form
      have hrow := hE'.row
      rw [hE'.agree.1, ← HN.out] at hrow
      obtain ⟨tg, hta⟩ : ∃ tg, ta = some ⟨tg, 0, none⟩ := by
        rcases HS0.out.row.2 with ⟨e, hz⟩ | ⟨g, cap, cur, e, _⟩
        · omega
        · cases e; exact ⟨g, rfl⟩
      subst hta
      obtain ⟨g1, g2, g3⟩ := heldC_get hkE'
      obtain ⟨a1, a2, a3⟩ := hE'.agree.2 k hkE hkE'
      have y0 := hrow.cell rfl (i := k * 3) (by omega)
      have y1 := hrow.cell rfl (i := k * 3 + 1) (by omega)
      have y2 := hrow.cell rfl (i := k * 3 + 2) (by omega)
      rw [g1, a1, ← hv0] at y0
      rw [g2, hgn] at y1
      rw [g3, a3, ← hm] at y2
      obtain ⟨w4, hw4⟩ : ∃ w4, w4 = wo.alloc (.cells #[.slice va n vc, .slice none 0 0, .int .i64 m] 85) := ⟨_, rfl⟩
      have hb4 : w4.heap[wo.heap.size]? = some (.cells #[.slice va n vc, .slice none 0 0, .int .i64 m] 85 (0, 0)) := by rw [hw4]; exact heap_new _ _
      have hbl4 : Below wo.heap.size wo w4 := by rw [hw4]; exact (Below.refl _ _).alloc (Nat.le_refl _) _
      have z0 := cell_in hb4 (i := 0) rfl
      have hbv : ∀ j, vblock (.slice va n vc) = some j → blocksV E j := fun j hj => ⟨E[k], hmem, by rw [← hv0]; exact hj⟩
      have hbo : ∀ x, blocksV E x ∨ vblock (.slice (some ⟨tg, 0, none⟩) E.length tc) = some x → w0.heap.size ≤ x := fun x hx => hx.elim (HE.out.1 x) (HE.out.2 x)
      have HX := Lib.hid (show SliceN w4 0 9 1 (.slice va n vc) n (rep n (markT m)) ∧ (∀ j, vblock (.slice va n vc) = some j → j < w.heap.size) ∧ Base w0 w4 from ⟨hxs.below hbl4, fun j hj => HLt.out j (.inl (hbv j hj)), (HB.out.chg hE'.chg hbo).below hbl4⟩)
      have HBv := Lib.hid (And.intro hbv (And.intro hb4 (And.intro hbl4 hcb)))
      have HE3 := Lib.hid (And.intro hv0 (And.intro hn (And.intro hm (And.intro hE' (And.intro hkE hkE')))))
      have HW4 := Lib.hid hw4
      have hws : w.heap.size ≤ wo.heap.size := hE'.chg.size
      clear hxs hrow g1 g2 g3 hv0 hn hm hw4 hb4 hbl4 hbv hmem a1 a2 a3 hgn hcb hE' hbo
      go_wp2_with fail
      rw [← HW4.out]
      go_loopw [4, 5] (fun lv j wq => ∃ q : Nat, q ≤ 70 ∧ j = .int .i64 q ∧ Hid (SliceN wq 0 9 1 lv (n + q) (rep (n + q) (markT m)) ∧ Reads wq 1 (.slice va n vc) n (rep n (markT m)) ∧ Chg (fun x => vblock (.slice va n vc) = some x) w4 wq ∧ (vblock lv = vblock (.slice va n vc) ∨ ∃ x, vblock lv = some x ∧ wo.heap.size ≤ x))) (fun _ j _ => 70 - (intOf j).toNat)
      case atStart => exact ⟨0, Nat.zero_le _, rfl, Lib.hid ⟨HX.out.1, HX.out.1.reads, Chg.refl _ _, .inl rfl⟩⟩
      case round =>
        obtain ⟨q, hq, rfl, hJ⟩ := hrel
        obtain ⟨hys, hrd, hC, hvb⟩ := hJ.out
        obtain ⟨la, lc, rfl, hlc, _⟩ := hys.form
        have hB2 := HX.out.2.2.chg hC fun j hj => HE.out.1 j (HBv.out.1 j hj)
        have hh : wr.heap[wo.heap.size]? = some (.cells #[.slice va n vc, .slice none 0 0, .int .i64 m] 85 (0, 0)) := hC.keep HBv.out.2.1 fun e => by have := HX.out.2.1 _ e; omega
        have c2 := cell_in hh (i := 2) rfl
        by_cases hlq : q < 70
        · have hdq : decide ((q : Int) < 70) = true := decide_eq_true (by omega)
          have HMk := Lib.hid (markText_any hB2.now m hm9)
          have HJ2 := Lib.hid (And.intro hys (And.intro hrd (And.intro hC hvb)))
          clear hJ hys hC hB2 hh hrd hvb
          go_wp2_with fail
          refine HMk.out.mono ?_
          rintro e w5 ⟨rfl, b5⟩
          obtain ⟨i0, k1, k2, k3, k4⟩ := info_parts info_strB
          obtain ⟨v3, w6, hr, s3, c3, hvb3⟩ := run_append_oneK (P := Tryz.prog) (t := 22) (ty := 22) Tryz.underlying22 k1 k2 k3 k4 rfl (HJ2.out.1.below b5) (Nat.zero_le _) (markT m) rfl (by simp [Value.oneCell']) (by unfold maxLen; omega) (by omega)
          have hrd5 := HJ2.out.2.1.chg (Chg.of_below (fun _ => False) b5) fun _ _ => id
          have hs5 := b5.size
          have HS := Lib.hid (show SliceN w6 0 9 1 v3 (n + (q + 1)) (rep (n + (q + 1)) (markT m)) ∧ Reads w6 1 (.slice va n vc) n (rep n (markT m)) ∧ Chg (fun x => vblock (.slice va n vc) = some x) w4 w6 ∧ (vblock v3 = vblock (.slice va n vc) ∨ ∃ x, vblock v3 = some x ∧ wo.heap.size ≤ x) from by
            have hs6 : SliceN w6 0 9 1 v3 (n + (q + 1)) (rep (n + (q + 1)) (markT m)) := by
              rw [← Nat.add_assoc, rep_succ]; exact s3
            have hwz : wo.heap.size ≤ wr.heap.size := Nat.le_trans HBv.out.2.2.1.size HJ2.out.2.2.1.size
            have hvlt : ∀ j, vblock (.slice va n vc) = some j → j < wo.heap.size := fun j hj => by have := HX.out.2.1 j hj; omega
            have hw6 : Chg (fun x => vblock (.slice va n vc) = some x) w4 w6 := (HJ2.out.2.2.1.trans (Chg.of_below _ b5) fun j hj _ => hj).trans c3 fun j hj hlt4 => by
              rcases HJ2.out.2.2.2 with e | ⟨x, e, hx⟩
              · rw [e] at hj; exact hj.1
              · rw [e] at hj
                obtain ⟨hj1, _⟩ := hj
                cases hj1
                have h6 : w4.heap.size = wo.heap.size + 1 := by rw [HW4.out]; simp
                have h7 := (HJ2.out.1.block_lt e).1
                by_cases hxe : j = wo.heap.size
                · have hrow := HJ2.out.1
                  have hcel : wr.heap[wo.heap.size]? = some (.cells #[.slice va n vc, .slice none 0 0, .int .i64 m] 85 (0, 0)) := HJ2.out.2.2.1.keep HBv.out.2.1 fun e2 => by have := HX.out.2.1 _ e2; omega
                  exfalso
                  rcases hrow.2 with ⟨e3, _⟩ | ⟨g3, cap3, cur3, e3, _, ⟨fz, _, hrw⟩, _⟩
                  · rw [e3] at e; cases e
                  · rw [e3] at e
                    have hjg : g3 = j := Option.some.inj e
                    rw [hjg, hxe, hcel] at hrw
                    cases hrw
                · omega
            refine ⟨hs6, ?_, hw6, ?_⟩
            · by_cases hst : vblock v3 = vblock (.slice la (n + q) lc) ∧ vblock (.slice la (n + q) lc) = vblock (.slice va n vc)
              · rcases hs6.reads with ⟨rfl, hz⟩ | ⟨g, cap, rfl, _, _, hcl⟩
                · omega
                · rcases hrd5 with h0 | ⟨g', cap', e, h1, h2, h3⟩
                  · exact .inl h0
                  · have hgg : g = g' := by
                      have e9 := hst.1.trans hst.2
                      rw [e] at e9
                      cases e9; rfl
                    subst hgg
                    refine .inr ⟨g, cap', e, h1, h2, fun i hi => ?_⟩
                    rw [hcl i (by omega), rep_prefix n (q + 1) (markT m) (by simpa using hi)]
              · refine hrd5.chg c3 fun j hj ⟨h1, h2⟩ => hst ?_
                rw [h1, h2, hj]
                exact ⟨rfl, rfl⟩
            · rcases hvb3 with e | ⟨x, e, hx⟩
              · rw [e]; exact HJ2.out.2.2.2
              · exact .inr ⟨x, e, by omega⟩)
          have HR := Lib.hid hr
          obtain ⟨a3, c3', rfl, _⟩ := s3.form
          clear hr s3 c3 hvb3 k1 k2 k3 k4 hrd5 hs5 b5
          go_wp2_with (at_builtin; refine wpList_append_run rfl rfl HR.out ?_)
          go_roundw
          case rel => exact ⟨q + 1, by omega, by go_num, HS⟩
          case measure => simp [intOf]; omega
        · obtain rfl : q = 70 := by omega
          rw [show ((70 : Nat) : Int) = 70 from rfl]
          have hd70 : decide ((70 : Int) < 70) = false := by decide
          obtain ⟨hv0, hn, hm, hE', hkE, hkE'⟩ := HE3.out
          have hcw : Chg (fun x => vblock (.slice va n vc) = some x) wo wr := (Chg.of_below _ HBv.out.2.2.1).trans hC fun j hj _ => hj
          have hvbk : ∀ x, vblock (.slice va n vc) = some x → blocksV E x := HBv.out.1
          have hcb2 : wr.heap[b]? = some (.cells cs 50 (0, 0)) := hcw.keep HBv.out.2.2.2 fun e => HCs.out.2.2 (.inl (hvbk _ e))
          have xb2 := cell_in hcb2 HCs.out.2.1
          have hrow2 := hE'.row.chg hcw fun j hj e => by
            obtain ⟨h1, hh1, e1⟩ := hvbk j e
            exact HH.out.offt h1 hh1 j e1 hj
          have hrow3 := hrow2
          rw [hE'.agree.1, ← HN.out] at hrow3
          have y1' := hrow3.cell rfl (i := k * 3 + 1) (by omega)
          rw [(heldC_get hkE').2.1, (hE'.new k hkE hkE' (Nat.le_refl _)).1] at y1'
          obtain ⟨hput, hfz⟩ := hrow2.put (g := tg) (c := tc) (m := E.length) rfl (p := k * 3 + 1) (by omega) (.slice la (n + 70) lc)
          obtain ⟨w7, hw7⟩ : ∃ w7, w7 = wr.setCell ⟨tg, k * 3 + 1, none⟩ (.slice la (n + 70) lc) := ⟨_, rfl⟩
          rw [← hw7] at hput
          have hc7 : Chg (fun x => x = tg) wr w7 := by rw [hw7]; exact Chg.setCell _ _ _ _ rfl
          have HS := Lib.hid (show ∃ E', Grew w0 w 9 85 1 markT (.slice (some ⟨tg, 0, none⟩) E.length tc) E E' (k + 1) w7 from by
            have htgl : tg < w.heap.size := HLt.out tg (.inr rfl)
            have hntg : ∀ j (h1 : j < E.length), ∀ x, vblock E[j].v = some x → x ≠ tg := fun j h1 x hx e => HH.out.offt _ (List.getElem_mem h1) x hx (by rw [e]; rfl)
            refine ⟨E'.set k { E'[k] with g := .slice la (n + 70) lc }, hE'.agree.set hkE' _, ?_, ?_, ?_, ?_⟩
            · rw [List.length_set, heldC_set hkE']; exact hput
            · intro j h1 h2 hjk
              have h2' : j < E'.length := by rw [List.length_set] at h2; exact h2
              rw [List.getElem_set]
              by_cases hjk2 : k = j
              · subst hjk2
                rw [if_pos rfl, ← hv0, ← hn, ← hm]
                refine ⟨hrd.chg hc7 fun x hx e => hntg k hkE x (by rw [← hv0]; exact hx) e, hys.reads.chg hc7 fun x hx e => ?_, ?_⟩
                · rcases hvb with e2 | ⟨y, e2, hy⟩
                  · rw [e2] at hx
                    exact hntg k hkE x (by rw [← hv0]; exact hx) e
                  · rw [e2] at hx; cases hx; omega
                · rcases hvb with e2 | ⟨y, e2, hy⟩
                  · exact .inl e2
                  · exact .inr ⟨y, e2, by omega⟩
              · rw [if_neg hjk2]
                obtain ⟨o1, o2, o3⟩ := hE'.old j h1 h2' (by omega)
                have hvv : ∀ x, vblock E[j].v = some x → ¬ vblock (.slice va n vc) = some x := fun x hx hy => HH.out.apart j k h1 hkE (fun e => hjk2 e.symm) x hx (by rw [← hv0]; exact hy)
                have hgv : ∀ x, vblock E'[j].g = some x → ¬ vblock (.slice va n vc) = some x ∧ x ≠ tg := fun x hx => by
                  rcases o3 with e2 | ⟨y, e2, hy⟩
                  · rw [e2] at hx; exact ⟨hvv x hx, hntg j h1 x hx⟩
                  · rw [e2] at hx; cases hx
                    exact ⟨fun e3 => by have := HX.out.2.1 _ e3; omega, by omega⟩
                exact ⟨(o1.chg hcw fun x hx => hvv x hx).chg hc7 fun x hx e => hntg j h1 x hx e, (o2.chg hcw fun x hx => (hgv x hx).1).chg hc7 fun x hx e => (hgv x hx).2 e, o3⟩
            · intro j h1 h2 hjk
              have h2' : j < E'.length := by rw [List.length_set] at h2; exact h2
              rw [List.getElem_set, if_neg (by omega)]
              obtain ⟨o1, o2⟩ := hE'.new j h1 h2' (by omega)
              exact ⟨o1, (o2.chg hcw fun x hx hy => HH.out.apart j k h1 hkE (by omega) x hx (by rw [← hv0]; exact hy)).chg hc7 fun x hx e => hntg j h1 x hx e⟩
            · exact (hE'.chg.trans hcw fun x hx _ => .inl (hvbk x hx)).trans hc7 fun x hx _ => .inr (by rw [hx]; rfl))
          have HW7 := Lib.hid hw7
          clear hJ hys hC hB2 hh hrd hvb hE' hv0 hn hm hcw hvbk hcb2 hrow2 hrow3 hput hw7 hc7
          go_wp2_with fail
          rw [← HW7.out]
          go_roundw
          case rel => exact ⟨k + 1, by omega, by go_num, HS⟩
          case measure => simp [intOf]; omega
    · obtain rfl : k = N := by omega
      have HS := Lib.hid (show (∃ E', Grown wo b 3 85 1 markT (.slice ta E.length tc) E') ∧ Chg (fun x => blocksV E x ∨ vblock (.slice ta E.length tc) = some x) w wo from by
        refine ⟨⟨E', ⟨cs, hcb, by rw [← HN.out]; exact HCs.out.2.1⟩, hE'.row, ?_, ?_, ?_⟩, hE'.chg⟩
        · rw [hE'.agree.1]; exact HH.out.few
        · intro h hh
          obtain ⟨j, hj, rfl⟩ := List.getElem_of_mem hh
          have hj0 : j < E.length := by rw [← hE'.agree.1]; exact hj
          obtain ⟨_, a2, a3⟩ := hE'.agree.2 j hj0 hj
          rw [a2, a3]
          exact HH.out.small _ (List.getElem_mem hj0)
        · intro h hh
          obtain ⟨j, hj, rfl⟩ := List.getElem_of_mem hh
          have hj0 : j < E.length := by rw [← hE'.agree.1]; exact hj
          obtain ⟨a1, a2, a3⟩ := hE'.agree.2 j hj0 hj
          obtain ⟨h1, h2, _⟩ := hE'.old j hj0 hj (by rw [HN.out]; exact hj0)
          rw [a1, a2, a3]
          exact ⟨h1, h2⟩)
      clear hI hE' hcb
      go_wp2_with fail
      go_end0
      exact ⟨⟨_, rfl⟩, HS.out⟩
end Go.Proofs.YtlecnlnpgghmbaaGreatDoor

/- The book: lookText. -/
namespace Go.Proofs.YtlecnlnpgghmbaaGreatDoor
set_option linter.unusedVariables false
set_option linter.unusedSimpArgs false
open Go.RowKit
theorem rep_one (n : Nat) (u : Value) {i : Nat} (hi : i < n) : (rep n [u]).getD i undef = u := by
  have := rep_get n [u] (k := i) (j := 0) hi (by simp)
  simpa using this
set_option maxHeartbeats 6400000 in
set_option maxRecDepth 100000 in
theorem lookText_any {w0 w : World} (hB : Base w0 w) {b : Nat} {tv : Value} {E : List Held} (h : Grown w b 3 85 1 markT tv E) :
    Calls Tryz.prog 61 #[bkp b] w fun e w' => e = .returned (.bool true) ∧ Below w.heap.size w w' := by
  obtain ⟨N, hN⟩ : ∃ N, N = E.length := ⟨_, rfl⟩
  obtain ⟨ta, tc, rfl, htc, _⟩ := h.row.form
  rw [← hN] at htc
  have hN6 : N ≤ 1000000 := by have := h.few; omega
  have HH := Lib.hid h
  have HB := Lib.hid hB
  have HN := Lib.hid hN
  obtain ⟨cs, hcs, hci⟩ := h.head
  rw [← hN] at hci
  have HCs := Lib.hid (And.intro hcs hci)
  clear h hB hN hcs hci
  go_enter Tryz.func61, Tryz.ntmps61
  go_wp2_with fail
  go_loopw [3] (fun i wr => ∃ k : Nat, k ≤ N ∧ i = .int .i64 k ∧ Hid (Below w.heap.size w wr)) (fun i _ => N - (intOf i).toNat)
  case atStart => exact ⟨0, Nat.zero_le _, rfl, Lib.hid (Below.refl _ _)⟩
  case round =>
    obtain ⟨k, hk, rfl, hI⟩ := hrel
    obtain ⟨wo, rfl⟩ : ∃ wo, wo = wr := ⟨_, rfl⟩
    have hcb : wo.heap[b]? = some (.cells cs 50 (0, 0)) := (Chg.of_below (fun _ => False) hI.out).keep HCs.out.1 id
    have xr := cell_in hcb HCs.out.2
    by_cases hlt : k < N
    · have hkE : k < E.length := by rw [← HN.out]; exact hlt
      obtain ⟨v0, hv0⟩ : ∃ v0, v0 = E[k].v := ⟨_, rfl⟩
      obtain ⟨g0, hg0⟩ : ∃ g0, g0 = E[k].g := ⟨_, rfl⟩
      obtain ⟨n, hn⟩ : ∃ n, n = E[k].n := ⟨_, rfl⟩
      obtain ⟨m, hm⟩ : ∃ m, m = E[k].m := ⟨_, rfl⟩
      have hmem : E[k] ∈ E := List.getElem_mem hkE
      have hsm := HH.out.small _ hmem
      rw [← hn, ← hm] at hsm
      obtain ⟨hn9, hm9⟩ := hsm
      obtain ⟨hxv, hxg⟩ := HH.out.got _ hmem
      rw [← hv0, ← hn, ← hm] at hxv
      rw [← hg0, ← hn, ← hm] at hxg
      obtain ⟨va, vc, rfl, hvc, _⟩ := hxv.form
      obtain ⟨ga, gc, rfl, hgc, _⟩ := hxg.form
      have hrow := HH.out.row.below hI.out
      rw [← HN.out] at hrow
      obtain ⟨tg, hta⟩ : ∃ tg, ta = some ⟨tg, 0, none⟩ := by
        rcases hrow.2 with ⟨e, hz⟩ | ⟨g, cap, cur, e, _⟩
        · omega
        · cases e; exact ⟨g, rfl⟩
      subst hta
      obtain ⟨g1, g2, g3⟩ := heldC_get hkE
      have y0 := hrow.cell rfl (i := k * 3) (by omega)
      have y1 := hrow.cell rfl (i := k * 3 + 1) (by omega)
      have y2 := hrow.cell rfl (i := k * 3 + 2) (by omega)
      rw [g1, ← hv0] at y0
      rw [g2, ← hg0] at y1
      rw [g3, ← hm] at y2
      obtain ⟨w4, hw4⟩ : ∃ w4, w4 = wo.alloc (.cells #[.slice va n vc, .slice ga (n + 70) gc, .int .i64 m] 85) := ⟨_, rfl⟩
      have hb4 : w4.heap[wo.heap.size]? = some (.cells #[.slice va n vc, .slice ga (n + 70) gc, .int .i64 m] 85 (0, 0)) := by rw [hw4]; exact heap_new _ _
      have hbl4 : Below wo.heap.size wo w4 := by rw [hw4]; exact (Below.refl _ _).alloc (Nat.le_refl _) _
      have z0 := cell_in hb4 (i := 0) rfl
      have z1 := cell_in hb4 (i := 1) rfl
      have hbw4 : Below w.heap.size w w4 := hI.out.trans (hbl4.mono hI.out.size)
      have HX := Lib.hid (show Reads w4 1 (.slice va n vc) n (rep n (markT m)) ∧ Reads w4 1 (.slice ga (n + 70) gc) (n + 70) (rep (n + 70) (markT m)) ∧ Base w0 w4 ∧ Below w.heap.size w w4 from
        ⟨hxv.chg (Chg.of_below (fun _ => False) hbw4) fun _ _ => id, hxg.chg (Chg.of_below (fun _ => False) hbw4) fun _ _ => id, HB.out.below hbw4, hbw4⟩)
      have HW4 := Lib.hid hw4
      have HB4 := Lib.hid hb4
      have hne : (((n + 70 : Nat) : Int) != (n : Int) + 70) = false := by rw [bne_eq_false_iff_eq]; omega
      clear hxv hxg hrow g1 g2 g3 hv0 hg0 hn hm hw4 hb4 hbl4 hmem hbw4
      go_wp2_with fail
      rw [← HW4.out]
      go_loopw [5] (fun j wq => ∃ q : Nat, q ≤ n + 70 ∧ j = .int .i64 q ∧ Hid (Below w4.heap.size w4 wq)) (fun j _ => n + 70 - (intOf j).toNat)
      case atStart => exact ⟨0, Nat.zero_le _, rfl, Lib.hid (Below.refl _ _)⟩
      case round =>
        obtain ⟨q, hq, rfl, hJ⟩ := hrel
        have hh : wr.heap[wo.heap.size]? = some (.cells #[.slice va n vc, .slice ga (n + 70) gc, .int .i64 m] 85 (0, 0)) := (Chg.of_below (fun _ => False) hJ.out).keep HB4.out id
        have c1 := cell_in hh (i := 1) rfl
        by_cases hlq : q < n + 70
        · have hdq : decide ((q : Int) < (n : Int) + 70) = true := decide_eq_true (by omega)
          have hdq2 : decide (q < n + 70) = true := decide_eq_true (by omega)
          have hbd : Below w4.heap.size w4 wr.drew := belowN hJ.out 1
          obtain ⟨gg, gcap, hge, hgc2⟩ := (HX.out.2.1.chg (Chg.of_below (fun _ => False) hbd) fun _ _ => id).get (i := q) (by omega)
          rw [rep_one _ _ hlq] at hgc2
          cases hge
          have hd : ∀ w5, Below wr.drew.heap.size wr.drew w5 → w5.heap[wo.heap.size]? = some (.cells #[.slice va n vc, .slice (some ⟨gg, 0, none⟩) (n + 70) gc, .int .i64 m] 85 (0, 0)) ∧ w5.cell? ⟨gg, q, none⟩ = some (.string (wordB m)) := fun w5 b5 =>
            ⟨(Chg.of_below (fun _ => False) b5).keep hh id, cell_chg (Chg.of_below (fun _ => False) b5) hgc2 id⟩
          by_cases hqn : q < n
          · have hqd : decide ((q : Int) < (n : Int)) = true := decide_eq_true (by omega)
            have hqd2 : decide (q < n) = true := decide_eq_true (by omega)
            obtain ⟨vg, vcap, hve, hvc2⟩ := (HX.out.1.chg (Chg.of_below (fun _ => False) hbd) fun _ _ => id).get (i := q) (by omega)
            rw [rep_one _ _ hqn] at hvc2
            cases hve
            obtain ⟨X1, f, hX1, hff, hF⟩ := classOf (fun y => (y.heap[wo.heap.size]? = some (.cells #[.slice (some ⟨vg, 0, none⟩) n vc, .slice (some ⟨gg, 0, none⟩) (n + 70) gc, .int .i64 m] 85 (0, 0)) ∧ y.cell? ⟨gg, q, none⟩ = some (.string (wordB m))) ∧ y.cell? ⟨vg, q, none⟩ = some (.string (wordB m))) (w := wr.drew) ⟨hd _ (Below.refl _ _), hvc2⟩
            have hf0 := fun x => cell_in (hff x).1.1 (i := 0) rfl
            have hf1 := fun x => cell_in (hff x).1.1 (i := 1) rfl
            have hf2 := fun x => cell_in (hff x).1.1 (i := 2) rfl
            have hf3 := fun x => (hff x).1.2
            have hf4 := fun x => (hff x).2
            have H0 := Lib.hid (hF wr.drew ⟨hd _ (Below.refl _ _), hvc2⟩)
            have HFc := Lib.hid (fun (w5 : World) (b5 : Below wr.drew.heap.size wr.drew w5) => hF w5 ⟨hd w5 b5, cell_chg (Chg.of_below (fun _ => False) b5) hvc2 id⟩)
            have HIs := Lib.hid (fun (w5 : World) (b5 : Below wr.drew.heap.size wr.drew w5) => isText_any (((HX.out.2.2.1.below hbd).below b5).now) m hm9)
            have HJ2 := Lib.hid hJ.out
            clear hJ hh hff hF hd hgc2 hvc2 hbd
            generalize wordB m = t at *
            go_wp2_with fail
            refine wp_region_text ⟨[7, 23], [], 27⟩ (fun w' => ∃ x : X1, w' = f x) (by kernel_rfl) (by kernel_rfl) H0.out ?_
            refine wpC_seg false (H0.out) 7 0 _ _ (by rfl) (by rfl) ?_
            simp only [List.take_succ_cons, List.take_zero, List.drop_succ_cons, List.drop_zero, Bool.false_eq_true, if_false, Nat.zero_add, Nat.reduceAdd]
            repeat (go_big_quiet_step (fail))
            refine wpQuiet_nil ?_
            refine wpC_loud (by rfl) (by rfl) fun K hK => ?_
            go_wp2_with fail
            refine (HIs.out _ (Below.refl _ _)).mono ?_
            rintro e w5 ⟨rfl, b5⟩
            have HB5 := Lib.hid b5
            have H5 := Lib.hid (HFc.out w5 b5)
            refine hK _ _ (fun _ => H5.out) ?_
            clear hK b5
            refine wpC_seg false (H5.out) 15 8 _ _ (by rfl) (by rfl) ?_
            simp only [List.take_succ_cons, List.take_zero, List.drop_succ_cons, List.drop_zero, Bool.false_eq_true, if_false, Nat.zero_add, Nat.reduceAdd]
            repeat (go_big_quiet_step (fail))
            refine wpQuiet_nil ?_
            refine wpC_loud (by rfl) (by rfl) fun K hK => ?_
            go_wp2_with fail
            refine (HIs.out _ HB5.out).mono ?_
            rintro e w6 ⟨rfl, b6⟩
            have HB6 := Lib.hid (HB5.out.trans (b6.mono HB5.out.size))
            have H6 := Lib.hid (HFc.out w6 HB6.out)
            refine hK _ _ (fun _ => H6.out) ?_
            clear hK b6
            refine wpC_seg false (H6.out) 3 24 _ _ (by rfl) (by rfl) ?_
            simp only [List.take_succ_cons, List.take_zero, List.drop_succ_cons, List.drop_zero, Bool.false_eq_true, if_false, Nat.zero_add, Nat.reduceAdd]
            repeat (go_big_quiet_step (fail))
            refine wpQuiet_nil ?_
            refine wpC_nil ?_
            have HS := Lib.hid (show Below w4.heap.size w4 w6 from HJ2.out.trans ((belowN (Below.refl wr.heap.size wr) 1).trans HB6.out |>.mono HJ2.out.size))
            clear hf0 hf1 hf2 hf3 hf4 hX1 H0 H5 H6 HFc HIs
            go_wp2_with fail
            go_roundw
            case rel => exact ⟨q + 1, by omega, by go_num, HS⟩
            case measure => simp [intOf]; omega
          · have hqd : decide ((q : Int) < (n : Int)) = false := decide_eq_false (by omega)
            have hqd2 : decide (q < n) = false := decide_eq_false (by omega)
            obtain ⟨X1, f, hX1, hff, hF⟩ := classOf (fun y => y.heap[wo.heap.size]? = some (.cells #[.slice va n vc, .slice (some ⟨gg, 0, none⟩) (n + 70) gc, .int .i64 m] 85 (0, 0)) ∧ y.cell? ⟨gg, q, none⟩ = some (.string (wordB m))) (w := wr.drew) (hd _ (Below.refl _ _))
            have hf0 := fun x => cell_in (hff x).1 (i := 0) rfl
            have hf1 := fun x => cell_in (hff x).1 (i := 1) rfl
            have hf2 := fun x => cell_in (hff x).1 (i := 2) rfl
            have hf3 := fun x => (hff x).2
            have H0 := Lib.hid (hF wr.drew (hd _ (Below.refl _ _)))
            have HFc := Lib.hid (fun (w5 : World) (b5 : Below wr.drew.heap.size wr.drew w5) => hF w5 (hd w5 b5))
            have HIs := Lib.hid (isText_any ((HX.out.2.2.1.below hbd).now) m hm9)
            have HJ2 := Lib.hid hJ.out
            clear hJ hh hff hF hd hgc2 hbd
            generalize wordB m = t at *
            go_wp2_with fail
            refine wp_region_text ⟨[7, 23], [], 27⟩ (fun w' => ∃ x : X1, w' = f x) (by kernel_rfl) (by kernel_rfl) H0.out ?_
            refine wpC_seg false (H0.out) 7 0 _ _ (by rfl) (by rfl) ?_
            simp only [List.take_succ_cons, List.take_zero, List.drop_succ_cons, List.drop_zero, Bool.false_eq_true, if_false, Nat.zero_add, Nat.reduceAdd]
            repeat (go_big_quiet_step (fail))
            refine wpQuiet_nil ?_
            refine wpC_loud (by rfl) (by rfl) fun K hK => ?_
            go_wp2_with fail
            refine HIs.out.mono ?_
            rintro e w5 ⟨rfl, b5⟩
            have HB5 := Lib.hid b5
            have H5 := Lib.hid (HFc.out w5 b5)
            refine hK _ _ (fun _ => H5.out) ?_
            clear hK b5
            refine wpC_seg false (H5.out) 15 8 _ _ (by rfl) (by rfl) ?_
            simp only [List.take_succ_cons, List.take_zero, List.drop_succ_cons, List.drop_zero, Bool.false_eq_true, if_false, Nat.zero_add, Nat.reduceAdd]
            repeat (go_big_quiet_step (fail))
            refine wpQuiet_nil ?_
            refine wpC_skip (by rfl) (by rfl) (fun _ => H5.out) ?_
            simp only [Act.put, List.setIfInBounds_toArray, List.set_cons_succ, List.set_cons_zero]
            refine wpC_seg false (H5.out) 3 24 _ _ (by rfl) (by rfl) ?_
            simp only [List.take_succ_cons, List.take_zero, List.drop_succ_cons, List.drop_zero, Bool.false_eq_true, if_false, Nat.zero_add, Nat.reduceAdd]
            repeat (go_big_quiet_step (fail))
            refine wpQuiet_nil ?_
            refine wpC_nil ?_
            have HS := Lib.hid (show Below w4.heap.size w4 w5 from HJ2.out.trans ((belowN (Below.refl wr.heap.size wr) 1).trans HB5.out |>.mono HJ2.out.size))
            clear hf0 hf1 hf2 hf3 hX1 H0 H5 HFc HIs
            go_wp2_with fail
            go_roundw
            case rel => exact ⟨q + 1, by omega, by go_num, HS⟩
            case measure => simp [intOf]; omega
        · obtain rfl : q = n + 70 := by omega
          have HS := Lib.hid (show Below w.heap.size w wr from HX.out.2.2.2.trans (hJ.out.mono HX.out.2.2.2.size))
          have hdq : decide (((n + 70 : Nat) : Int) < ((n + 70 : Nat) : Int)) = false := decide_eq_false (by omega)
          clear hJ hh
          go_wp2_with fail
          go_roundw
          case rel => exact ⟨k + 1, by omega, by go_num, HS⟩
          case measure => simp [intOf]; omega
    · obtain rfl : k = N := by omega
      have HS := Lib.hid hI.out
      clear hI
      go_wp2_with fail
      go_ret
      exact ⟨rfl, HS.out⟩
end Go.Proofs.YtlecnlnpgghmbaaGreatDoor

/- The book: keepText, Texts. -/
namespace Go.Proofs.YtlecnlnpgghmbaaGreatDoor
set_option linter.unusedVariables false
set_option linter.unusedSimpArgs false
open Go.RowKit
theorem heldC_snoc (E : List Held) (h : Held) : heldC (E ++ [h]) = heldC E ++ [h.v, h.g, .int .i64 h.m] := by
  unfold heldC
  rw [List.flatMap_append]; simp
theorem info_heldText : (Tryz.prog.info? 85).map (fun i => (i.zero, i.size, i.bytes)) = some (some (.agg #[.slice none 0 0, .slice none 0 0, .int .i64 0]), 3, 56) := by kernel_rfl
/-- A book that has kept one more list of a kind. -/
def Kept (w : World) (b I : Nat) (HT : TypeId) (cs : Array Value) (c : Nat) (tv : Value) (E : List Held) (v : Value) (n : Nat) (w' : World) : Prop :=
  ∃ tv', w'.heap[b]? = some (.cells ((cs.setIfInBounds 0 (.int .i64 ((c + 1 : Nat) : Int))).setIfInBounds I tv') 50 (0, 0)) ∧ SliceN w' 0 HT 3 tv' (E ++ [(⟨v, .slice none 0 0, n, c + 1⟩ : Held)]).length (heldC (E ++ [(⟨v, .slice none 0 0, n, c + 1⟩ : Held)])) ∧
    (vblock tv' = vblock tv ∨ ∃ k, vblock tv' = some k ∧ w.heap.size ≤ k) ∧ Chg (fun k => k = b ∨ vblock tv = some k) w w'
set_option maxHeartbeats 3200000 in
set_option maxRecDepth 100000 in
theorem keepText_any {w : World} {b c : Nat} {cs : Array Value} {tv : Value} {E : List Held} (hb : w.heap[b]? = some (.cells cs 50 (0, 0))) (h0 : cs[0]? = some (.int .i64 (c : Int))) (hI : cs[3]? = some tv)
    (hrow : SliceN w 0 85 3 tv E.length (heldC E)) (hbt : vblock tv ≠ some b) (hc : c ≤ 1000000) (hE : E.length ≤ 1000000) (a : Option Addr) (n cap : Nat) :
    Calls Tryz.prog 22 #[bkp b, .slice a n cap] w fun e w' => (∃ v, e = .returned v) ∧ Kept w b 3 85 cs c tv E (.slice a n cap) n w' := by
  obtain ⟨ta, tc, rfl, htc, _⟩ := hrow.form
  obtain ⟨N, hN⟩ : ∃ N, N = E.length := ⟨_, rfl⟩
  have x0 := cell_in hb h0
  have f0 := frozen_in hb 0
  obtain ⟨w1, hw1⟩ : ∃ w1, w1 = w.setCell ⟨b, 0, none⟩ (.int .i64 ((c : Int) + 1)) := ⟨_, rfl⟩
  have hb1 : w1.heap[b]? = some (.cells (cs.setIfInBounds 0 (.int .i64 ((c : Int) + 1))) 50 (0, 0)) := by rw [hw1]; exact setCell_head hb 0 _
  have hc1 : Chg (fun k => k = b) w w1 := by rw [hw1]; exact Chg.setCell _ _ _ _ rfl
  have hrow1 := hrow.chg hc1 fun k hk e => hbt (by rw [← e]; exact hk)
  have hs0 : 0 < cs.size := (Array.getElem?_eq_some_iff.1 h0).1
  have h01 : (cs.setIfInBounds 0 (.int .i64 ((c : Int) + 1)))[0]? = some (.int .i64 ((c : Int) + 1)) := by simp [hs0]
  have h31 : (cs.setIfInBounds 0 (.int .i64 ((c : Int) + 1)))[3]? = some (.slice ta E.length tc) := by
    rw [Array.getElem?_setIfInBounds, if_neg (by omega)]; exact hI
  rw [← hN] at h31
  -- the append
  have hd1 : Below w1.heap.size w1 w1.drew := belowN (Below.refl _ _) 1
  obtain ⟨i0, k1, k2, k3, k4⟩ := info_parts info_heldText
  obtain ⟨v3, w3, hr, s3, c3, hvb3⟩ := run_append_oneN (P := Tryz.prog) (t := 42) (ty := 42) Tryz.underlying42 k1 k2 k3 k4 rfl (hrow1.below hd1) (Nat.zero_le _) [.slice a n cap, .slice none 0 0, .int .i64 ((c : Int) + 1)] rfl (by simp [Value.oneCell']) (by unfold maxLen; omega) (by omega)
  obtain ⟨a3, cc3, rfl, _, _⟩ := s3.form
  have hnb : ¬ vblock (.slice ta E.length tc) = some b := hbt
  have hb3 : w3.heap[b]? = some (.cells (cs.setIfInBounds 0 (.int .i64 ((c : Int) + 1))) 50 (0, 0)) := c3.keep (show w1.drew.heap[b]? = _ from hb1) hnb
  obtain ⟨w4, hw4⟩ : ∃ w4, w4 = w3.setCell ⟨b, 3, none⟩ (.slice a3 (N + 1) cc3) := ⟨_, rfl⟩
  have hb4 := setCell_head hb3 3 (.slice a3 (N + 1) cc3)
  rw [← hw4] at hb4
  have hbl : b < w.heap.size := heap_lt hb
  have hsz1 : w.heap.size ≤ w1.drew.heap.size := hc1.size
  have HE := Lib.hid (show Kept w b 3 85 cs c (.slice ta E.length tc) E (.slice a n cap) n w4 from by
    have hc4 : Chg (fun k => k = b) w3 w4 := by rw [hw4]; exact Chg.setCell _ _ _ _ rfl
    refine ⟨.slice a3 (N + 1) cc3, hb4, ?_, ?_, ?_⟩
    · rw [heldC_snoc, List.length_append, List.length_singleton]
      rw [hN]
      refine s3.chg hc4 fun k hk e => ?_
      rcases hvb3 with h | ⟨x, h, hx⟩
      · rw [h] at hk; exact hbt (by rw [← e]; exact hk)
      · rw [h] at hk; cases hk; omega
    · rcases hvb3 with h | ⟨x, h, hx⟩
      · rw [hN]; exact .inl h
      · exact .inr ⟨x, by rw [hN]; exact h, by omega⟩
    · refine ((hc1.mono fun k hk _ => .inl hk).trans ((Chg.drew _ w1).trans c3 fun k hk _ => hk) fun k hk _ => .inr hk).trans hc4 fun k hk _ => .inl hk)
  obtain ⟨W1, hW1⟩ : ∃ W1, W1 = (w1.alloc (.cells #[.slice a n cap, .slice none 0 0, .int .i64 ((c : Int) + 1)] 85)).drew := ⟨_, rfl⟩
  have hbW : W1.heap[b]? = some (.cells (cs.setIfInBounds 0 (.int .i64 ((c : Int) + 1))) 50 (0, 0)) := by rw [hW1]; exact heap_old (show w1.heap[b]? = _ from hb1) _
  obtain ⟨X1, f, hX1, hff, hF⟩ := classOf (fun y => y.cell? ⟨b, 0, none⟩ = some (.int .i64 ((c : Int) + 1)) ∧ y.cell? ⟨b, 3, none⟩ = some (.slice ta N tc)) (w := w1.drew) ⟨cell_in (show w1.drew.heap[b]? = _ from hb1) h01, cell_in (show w1.drew.heap[b]? = _ from hb1) h31⟩
  have hf0 := fun x => (hff x).1
  have hf3 := fun x => (hff x).2
  have H0 := Lib.hid (hF w1.drew ⟨cell_in (show w1.drew.heap[b]? = _ from hb1) h01, cell_in (show w1.drew.heap[b]? = _ from hb1) h31⟩)
  have H1 := Lib.hid (hF W1 ⟨cell_in hbW h01, cell_in hbW h31⟩)
  have hr : (Builtin.append_ #[42, 42] 42 #[.slice ta N tc, .slice (some ⟨w1.heap.size, 0, none⟩) 1 1]).run Tryz.prog W1 = .ok (.slice a3 (N + 1) cc3) w3 := by rw [hW1, hN]; exact hr
  have HR := Lib.hid hr
  have q3 := cell_in hb3 h31
  have qf := frozen_in hb3 3
  have HW1 := Lib.hid hw1
  have HWa := Lib.hid hW1
  have HW4 := Lib.hid hw4
  clear hb h0 hI hrow hbt hw1 hb1 hc1 hrow1 h01 h31 hd1 hr s3 c3 hvb3 hnb hb3 hw4 hb4 hW1 hbW hff hF k1 k2 k3 k4 hN hE hs0
  go_enter Tryz.func22, Tryz.ntmps22
  go_wp2_with fail
  rw [← HW1.out]
  refine wp_region_text ⟨[11, 12, 15], [0, 13, 14], 12⟩ (fun w' => ∃ x : X1, w' = f x) (by kernel_rfl) (by kernel_rfl) H0.out ?_
  refine wpC_seg true (H0.out) 1 0 _ _ (by rfl) (by rfl) ?_
  simp only [List.take_succ_cons, List.take_zero, List.drop_succ_cons, List.drop_zero, if_true, Nat.zero_add, Nat.reduceAdd]
  repeat (go_big_quiet_step (fail))
  refine wpQuiet_nil ?_
  refine wpC_seg false (H0.out) 10 1 _ _ (by rfl) (by rfl) ?_
  simp only [List.take_succ_cons, List.take_zero, List.drop_succ_cons, List.drop_zero, Bool.false_eq_true, if_false, Nat.zero_add, Nat.reduceAdd]
  repeat (go_big_quiet_step (fail))
  refine wpQuiet_nil ?_
  refine wpC_loud (by rfl) (by rfl) fun K hK => ?_
  go_wp2_with fail
  rw [← HWa.out]
  refine hK _ _ (fun _ => H1.out) ?_
  clear hK
  refine wpC_value (by rfl) (by rfl) (exec_append rfl HR.out) (fun h => absurd h (by decide)) ?_
  simp only [Act.put, List.setIfInBounds_toArray, List.set_cons_succ, List.set_cons_zero]
  refine wpC_segD 2 13 _ _ (by rfl) (by rfl) ?_
  simp only [List.take_succ_cons, List.take_zero, List.drop_succ_cons, List.drop_zero, if_true, Nat.zero_add, Nat.reduceAdd]
  repeat (go_big_quiet_step (fail))
  refine wpQuiet_nil ?_
  clear hf0 hf3 H0 H1
  refine wpC_loud (by rfl) (by rfl) fun K hK => ?_
  go_wp2_with fail
  rw [← HW4.out]
  refine hK _ _ (fun h => absurd h (by decide)) ?_
  clear hK
  refine wpC_nil ?_
  go_wp2_with fail
  go_end0
  exact ⟨⟨_, rfl⟩, HE.out⟩
set_option maxHeartbeats 800000 in
set_option maxRecDepth 100000 in
theorem texts_any {w : World} {b c : Nat} {cs : Array Value} {tv : Value} {E : List Held} (hb : w.heap[b]? = some (.cells cs 50 (0, 0))) (h0 : cs[0]? = some (.int .i64 (c : Int))) (hI : cs[3]? = some tv)
    (hrow : SliceN w 0 85 3 tv E.length (heldC E)) (hbt : vblock tv ≠ some b) (hc : c ≤ 1000000) (hE : E.length ≤ 1000000) (a : Option Addr) (n cap : Nat) :
    Calls Tryz.prog 11 #[bkp b, .slice a n cap] w fun e w' => (∃ v, e = .returned v) ∧ Kept w b 3 85 cs c tv E (.slice a n cap) n w' := by
  have HK := Lib.hid (keepText_any hb h0 hI hrow hbt hc hE a n cap)
  clear hb h0 hI hrow hbt hE
  go_enter Tryz.func11, Tryz.ntmps11
  go_wp2_with fail
  refine HK.out.mono ?_
  rintro e w' ⟨⟨v, rfl⟩, hk⟩
  have HE := Lib.hid hk
  clear hk
  go_wp2_with fail
  go_end0
  exact ⟨⟨_, rfl⟩, HE.out⟩
end Go.Proofs.YtlecnlnpgghmbaaGreatDoor

/- The book: a kind of which it holds nothing. (Printed by gen_bk8.py.) -/
namespace Go.Proofs.YtlecnlnpgghmbaaGreatDoor
set_option linter.unusedVariables false
set_option linter.unusedSimpArgs false
open Go.RowKit
set_option maxHeartbeats 800000 in
set_option maxRecDepth 100000 in
theorem fillByte_none {w : World} {b : Nat} {cs : Array Value} (hb : w.heap[b]? = some (.cells cs 50 (0, 0))) (hI : cs[1]? = some (.slice none 0 0)) :
    Calls Tryz.prog 41 #[bkp b] w fun e w' => (∃ v, e = .returned v) ∧ w = w' := by
  have x0 := cell_in hb hI
  clear hb hI
  go_enter Tryz.func41, Tryz.ntmps41
  go_wp2_with fail
  go_loop [2] (fun i => i = .int .i64 0) (fun _ => 0)
  case atStart => rfl
  case round =>
    obtain rfl := hrel
    go_wp2_with fail
    go_end0
    exact ⟨⟨_, rfl⟩, rfl⟩
set_option maxHeartbeats 800000 in
set_option maxRecDepth 100000 in
theorem growByte_none {w : World} {b : Nat} {cs : Array Value} (hb : w.heap[b]? = some (.cells cs 50 (0, 0))) (hI : cs[1]? = some (.slice none 0 0)) :
    Calls Tryz.prog 50 #[bkp b] w fun e w' => (∃ v, e = .returned v) ∧ w = w' := by
  have x0 := cell_in hb hI
  clear hb hI
  go_enter Tryz.func50, Tryz.ntmps50
  go_wp2_with fail
  go_loop [2] (fun i => i = .int .i64 0) (fun _ => 0)
  case atStart => rfl
  case round =>
    obtain rfl := hrel
    go_wp2_with fail
    go_end0
    exact ⟨⟨_, rfl⟩, rfl⟩
set_option maxHeartbeats 800000 in
set_option maxRecDepth 100000 in
theorem lookByte_none {w : World} {b : Nat} {cs : Array Value} (hb : w.heap[b]? = some (.cells cs 50 (0, 0))) (hI : cs[1]? = some (.slice none 0 0)) :
    Calls Tryz.prog 59 #[bkp b] w fun e w' => e = .returned (.bool true) ∧ w = w' := by
  have x0 := cell_in hb hI
  clear hb hI
  go_enter Tryz.func59, Tryz.ntmps59
  go_wp2_with fail
  go_loop [3] (fun i => i = .int .i64 0) (fun _ => 0)
  case atStart => rfl
  case round =>
    obtain rfl := hrel
    go_wp2_with fail
    go_ret
    exact ⟨rfl, rfl⟩
set_option maxHeartbeats 800000 in
set_option maxRecDepth 100000 in
theorem fillInt_none {w : World} {b : Nat} {cs : Array Value} (hb : w.heap[b]? = some (.cells cs 50 (0, 0))) (hI : cs[2]? = some (.slice none 0 0)) :
    Calls Tryz.prog 42 #[bkp b] w fun e w' => (∃ v, e = .returned v) ∧ w = w' := by
  have x0 := cell_in hb hI
  clear hb hI
  go_enter Tryz.func42, Tryz.ntmps42
  go_wp2_with fail
  go_loop [2] (fun i => i = .int .i64 0) (fun _ => 0)
  case atStart => rfl
  case round =>
    obtain rfl := hrel
    go_wp2_with fail
    go_end0
    exact ⟨⟨_, rfl⟩, rfl⟩
set_option maxHeartbeats 800000 in
set_option maxRecDepth 100000 in
theorem growInt_none {w : World} {b : Nat} {cs : Array Value} (hb : w.heap[b]? = some (.cells cs 50 (0, 0))) (hI : cs[2]? = some (.slice none 0 0)) :
    Calls Tryz.prog 51 #[bkp b] w fun e w' => (∃ v, e = .returned v) ∧ w = w' := by
  have x0 := cell_in hb hI
  clear hb hI
  go_enter Tryz.func51, Tryz.ntmps51
  go_wp2_with fail
  go_loop [2] (fun i => i = .int .i64 0) (fun _ => 0)
  case atStart => rfl
  case round =>
    obtain rfl := hrel
    go_wp2_with fail
    go_end0
    exact ⟨⟨_, rfl⟩, rfl⟩
set_option maxHeartbeats 800000 in
set_option maxRecDepth 100000 in
theorem lookInt_none {w : World} {b : Nat} {cs : Array Value} (hb : w.heap[b]? = some (.cells cs 50 (0, 0))) (hI : cs[2]? = some (.slice none 0 0)) :
    Calls Tryz.prog 60 #[bkp b] w fun e w' => e = .returned (.bool true) ∧ w = w' := by
  have x0 := cell_in hb hI
  clear hb hI
  go_enter Tryz.func60, Tryz.ntmps60
  go_wp2_with fail
  go_loop [3] (fun i => i = .int .i64 0) (fun _ => 0)
  case atStart => rfl
  case round =>
    obtain rfl := hrel
    go_wp2_with fail
    go_ret
    exact ⟨rfl, rfl⟩
set_option maxHeartbeats 800000 in
set_option maxRecDepth 100000 in
theorem fillText_none {w : World} {b : Nat} {cs : Array Value} (hb : w.heap[b]? = some (.cells cs 50 (0, 0))) (hI : cs[3]? = some (.slice none 0 0)) :
    Calls Tryz.prog 43 #[bkp b] w fun e w' => (∃ v, e = .returned v) ∧ w = w' := by
  have x0 := cell_in hb hI
  clear hb hI
  go_enter Tryz.func43, Tryz.ntmps43
  go_wp2_with fail
  go_loop [2] (fun i => i = .int .i64 0) (fun _ => 0)
  case atStart => rfl
  case round =>
    obtain rfl := hrel
    go_wp2_with fail
    go_end0
    exact ⟨⟨_, rfl⟩, rfl⟩
set_option maxHeartbeats 800000 in
set_option maxRecDepth 100000 in
theorem growText_none {w : World} {b : Nat} {cs : Array Value} (hb : w.heap[b]? = some (.cells cs 50 (0, 0))) (hI : cs[3]? = some (.slice none 0 0)) :
    Calls Tryz.prog 52 #[bkp b] w fun e w' => (∃ v, e = .returned v) ∧ w = w' := by
  have x0 := cell_in hb hI
  clear hb hI
  go_enter Tryz.func52, Tryz.ntmps52
  go_wp2_with fail
  go_loop [2] (fun i => i = .int .i64 0) (fun _ => 0)
  case atStart => rfl
  case round =>
    obtain rfl := hrel
    go_wp2_with fail
    go_end0
    exact ⟨⟨_, rfl⟩, rfl⟩
set_option maxHeartbeats 800000 in
set_option maxRecDepth 100000 in
theorem lookText_none {w : World} {b : Nat} {cs : Array Value} (hb : w.heap[b]? = some (.cells cs 50 (0, 0))) (hI : cs[3]? = some (.slice none 0 0)) :
    Calls Tryz.prog 61 #[bkp b] w fun e w' => e = .returned (.bool true) ∧ w = w' := by
  have x0 := cell_in hb hI
  clear hb hI
  go_enter Tryz.func61, Tryz.ntmps61
  go_wp2_with fail
  go_loop [3] (fun i => i = .int .i64 0) (fun _ => 0)
  case atStart => rfl
  case round =>
    obtain rfl := hrel
    go_wp2_with fail
    go_ret
    exact ⟨rfl, rfl⟩
set_option maxHeartbeats 800000 in
set_option maxRecDepth 100000 in
theorem fillPair_none {w : World} {b : Nat} {cs : Array Value} (hb : w.heap[b]? = some (.cells cs 50 (0, 0))) (hI : cs[4]? = some (.slice none 0 0)) :
    Calls Tryz.prog 44 #[bkp b] w fun e w' => (∃ v, e = .returned v) ∧ w = w' := by
  have x0 := cell_in hb hI
  clear hb hI
  go_enter Tryz.func44, Tryz.ntmps44
  go_wp2_with fail
  go_loop [2] (fun i => i = .int .i64 0) (fun _ => 0)
  case atStart => rfl
  case round =>
    obtain rfl := hrel
    go_wp2_with fail
    go_end0
    exact ⟨⟨_, rfl⟩, rfl⟩
set_option maxHeartbeats 800000 in
set_option maxRecDepth 100000 in
theorem growPair_none {w : World} {b : Nat} {cs : Array Value} (hb : w.heap[b]? = some (.cells cs 50 (0, 0))) (hI : cs[4]? = some (.slice none 0 0)) :
    Calls Tryz.prog 53 #[bkp b] w fun e w' => (∃ v, e = .returned v) ∧ w = w' := by
  have x0 := cell_in hb hI
  clear hb hI
  go_enter Tryz.func53, Tryz.ntmps53
  go_wp2_with fail
  go_loop [2] (fun i => i = .int .i64 0) (fun _ => 0)
  case atStart => rfl
  case round =>
    obtain rfl := hrel
    go_wp2_with fail
    go_end0
    exact ⟨⟨_, rfl⟩, rfl⟩
set_option maxHeartbeats 800000 in
set_option maxRecDepth 100000 in
theorem lookPair_none {w : World} {b : Nat} {cs : Array Value} (hb : w.heap[b]? = some (.cells cs 50 (0, 0))) (hI : cs[4]? = some (.slice none 0 0)) :
    Calls Tryz.prog 62 #[bkp b] w fun e w' => e = .returned (.bool true) ∧ w = w' := by
  have x0 := cell_in hb hI
  clear hb hI
  go_enter Tryz.func62, Tryz.ntmps62
  go_wp2_with fail
  go_loop [3] (fun i => i = .int .i64 0) (fun _ => 0)
  case atStart => rfl
  case round =>
    obtain rfl := hrel
    go_wp2_with fail
    go_ret
    exact ⟨rfl, rfl⟩
set_option maxHeartbeats 800000 in
set_option maxRecDepth 100000 in
theorem fillScored_none {w : World} {b : Nat} {cs : Array Value} (hb : w.heap[b]? = some (.cells cs 50 (0, 0))) (hI : cs[5]? = some (.slice none 0 0)) :
    Calls Tryz.prog 45 #[bkp b] w fun e w' => (∃ v, e = .returned v) ∧ w = w' := by
  have x0 := cell_in hb hI
  clear hb hI
  go_enter Tryz.func45, Tryz.ntmps45
  go_wp2_with fail
  go_loop [2] (fun i => i = .int .i64 0) (fun _ => 0)
  case atStart => rfl
  case round =>
    obtain rfl := hrel
    go_wp2_with fail
    go_end0
    exact ⟨⟨_, rfl⟩, rfl⟩
set_option maxHeartbeats 800000 in
set_option maxRecDepth 100000 in
theorem growScored_none {w : World} {b : Nat} {cs : Array Value} (hb : w.heap[b]? = some (.cells cs 50 (0, 0))) (hI : cs[5]? = some (.slice none 0 0)) :
    Calls Tryz.prog 54 #[bkp b] w fun e w' => (∃ v, e = .returned v) ∧ w = w' := by
  have x0 := cell_in hb hI
  clear hb hI
  go_enter Tryz.func54, Tryz.ntmps54
  go_wp2_with fail
  go_loop [2] (fun i => i = .int .i64 0) (fun _ => 0)
  case atStart => rfl
  case round =>
    obtain rfl := hrel
    go_wp2_with fail
    go_end0
    exact ⟨⟨_, rfl⟩, rfl⟩
set_option maxHeartbeats 800000 in
set_option maxRecDepth 100000 in
theorem lookScored_none {w : World} {b : Nat} {cs : Array Value} (hb : w.heap[b]? = some (.cells cs 50 (0, 0))) (hI : cs[5]? = some (.slice none 0 0)) :
    Calls Tryz.prog 63 #[bkp b] w fun e w' => e = .returned (.bool true) ∧ w = w' := by
  have x0 := cell_in hb hI
  clear hb hI
  go_enter Tryz.func63, Tryz.ntmps63
  go_wp2_with fail
  go_loop [3] (fun i => i = .int .i64 0) (fun _ => 0)
  case atStart => rfl
  case round =>
    obtain rfl := hrel
    go_wp2_with fail
    go_ret
    exact ⟨rfl, rfl⟩
set_option maxHeartbeats 800000 in
set_option maxRecDepth 100000 in
theorem fillEntry_none {w : World} {b : Nat} {cs : Array Value} (hb : w.heap[b]? = some (.cells cs 50 (0, 0))) (hI : cs[6]? = some (.slice none 0 0)) :
    Calls Tryz.prog 46 #[bkp b] w fun e w' => (∃ v, e = .returned v) ∧ w = w' := by
  have x0 := cell_in hb hI
  clear hb hI
  go_enter Tryz.func46, Tryz.ntmps46
  go_wp2_with fail
  go_loop [2] (fun i => i = .int .i64 0) (fun _ => 0)
  case atStart => rfl
  case round =>
    obtain rfl := hrel
    go_wp2_with fail
    go_end0
    exact ⟨⟨_, rfl⟩, rfl⟩
set_option maxHeartbeats 800000 in
set_option maxRecDepth 100000 in
theorem growEntry_none {w : World} {b : Nat} {cs : Array Value} (hb : w.heap[b]? = some (.cells cs 50 (0, 0))) (hI : cs[6]? = some (.slice none 0 0)) :
    Calls Tryz.prog 55 #[bkp b] w fun e w' => (∃ v, e = .returned v) ∧ w = w' := by
  have x0 := cell_in hb hI
  clear hb hI
  go_enter Tryz.func55, Tryz.ntmps55
  go_wp2_with fail
  go_loop [2] (fun i => i = .int .i64 0) (fun _ => 0)
  case atStart => rfl
  case round =>
    obtain rfl := hrel
    go_wp2_with fail
    go_end0
    exact ⟨⟨_, rfl⟩, rfl⟩
set_option maxHeartbeats 800000 in
set_option maxRecDepth 100000 in
theorem lookEntry_none {w : World} {b : Nat} {cs : Array Value} (hb : w.heap[b]? = some (.cells cs 50 (0, 0))) (hI : cs[6]? = some (.slice none 0 0)) :
    Calls Tryz.prog 64 #[bkp b] w fun e w' => e = .returned (.bool true) ∧ w = w' := by
  have x0 := cell_in hb hI
  clear hb hI
  go_enter Tryz.func64, Tryz.ntmps64
  go_wp2_with fail
  go_loop [3] (fun i => i = .int .i64 0) (fun _ => 0)
  case atStart => rfl
  case round =>
    obtain rfl := hrel
    go_wp2_with fail
    go_ret
    exact ⟨rfl, rfl⟩
set_option maxHeartbeats 800000 in
set_option maxRecDepth 100000 in
theorem fillItem_none {w : World} {b : Nat} {cs : Array Value} (hb : w.heap[b]? = some (.cells cs 50 (0, 0))) (hI : cs[7]? = some (.slice none 0 0)) :
    Calls Tryz.prog 47 #[bkp b] w fun e w' => (∃ v, e = .returned v) ∧ w = w' := by
  have x0 := cell_in hb hI
  clear hb hI
  go_enter Tryz.func47, Tryz.ntmps47
  go_wp2_with fail
  go_loop [2] (fun i => i = .int .i64 0) (fun _ => 0)
  case atStart => rfl
  case round =>
    obtain rfl := hrel
    go_wp2_with fail
    go_end0
    exact ⟨⟨_, rfl⟩, rfl⟩
set_option maxHeartbeats 800000 in
set_option maxRecDepth 100000 in
theorem growItem_none {w : World} {b : Nat} {cs : Array Value} (hb : w.heap[b]? = some (.cells cs 50 (0, 0))) (hI : cs[7]? = some (.slice none 0 0)) :
    Calls Tryz.prog 56 #[bkp b] w fun e w' => (∃ v, e = .returned v) ∧ w = w' := by
  have x0 := cell_in hb hI
  clear hb hI
  go_enter Tryz.func56, Tryz.ntmps56
  go_wp2_with fail
  go_loop [2] (fun i => i = .int .i64 0) (fun _ => 0)
  case atStart => rfl
  case round =>
    obtain rfl := hrel
    go_wp2_with fail
    go_end0
    exact ⟨⟨_, rfl⟩, rfl⟩
set_option maxHeartbeats 800000 in
set_option maxRecDepth 100000 in
theorem lookItem_none {w : World} {b : Nat} {cs : Array Value} (hb : w.heap[b]? = some (.cells cs 50 (0, 0))) (hI : cs[7]? = some (.slice none 0 0)) :
    Calls Tryz.prog 65 #[bkp b] w fun e w' => e = .returned (.bool true) ∧ w = w' := by
  have x0 := cell_in hb hI
  clear hb hI
  go_enter Tryz.func65, Tryz.ntmps65
  go_wp2_with fail
  go_loop [3] (fun i => i = .int .i64 0) (fun _ => 0)
  case atStart => rfl
  case round =>
    obtain rfl := hrel
    go_wp2_with fail
    go_ret
    exact ⟨rfl, rfl⟩
set_option maxHeartbeats 800000 in
set_option maxRecDepth 100000 in
theorem fillCommand_none {w : World} {b : Nat} {cs : Array Value} (hb : w.heap[b]? = some (.cells cs 50 (0, 0))) (hI : cs[8]? = some (.slice none 0 0)) :
    Calls Tryz.prog 48 #[bkp b] w fun e w' => (∃ v, e = .returned v) ∧ w = w' := by
  have x0 := cell_in hb hI
  clear hb hI
  go_enter Tryz.func48, Tryz.ntmps48
  go_wp2_with fail
  go_loop [2] (fun i => i = .int .i64 0) (fun _ => 0)
  case atStart => rfl
  case round =>
    obtain rfl := hrel
    go_wp2_with fail
    go_end0
    exact ⟨⟨_, rfl⟩, rfl⟩
set_option maxHeartbeats 800000 in
set_option maxRecDepth 100000 in
theorem growCommand_none {w : World} {b : Nat} {cs : Array Value} (hb : w.heap[b]? = some (.cells cs 50 (0, 0))) (hI : cs[8]? = some (.slice none 0 0)) :
    Calls Tryz.prog 57 #[bkp b] w fun e w' => (∃ v, e = .returned v) ∧ w = w' := by
  have x0 := cell_in hb hI
  clear hb hI
  go_enter Tryz.func57, Tryz.ntmps57
  go_wp2_with fail
  go_loop [2] (fun i => i = .int .i64 0) (fun _ => 0)
  case atStart => rfl
  case round =>
    obtain rfl := hrel
    go_wp2_with fail
    go_end0
    exact ⟨⟨_, rfl⟩, rfl⟩
set_option maxHeartbeats 800000 in
set_option maxRecDepth 100000 in
theorem lookCommand_none {w : World} {b : Nat} {cs : Array Value} (hb : w.heap[b]? = some (.cells cs 50 (0, 0))) (hI : cs[8]? = some (.slice none 0 0)) :
    Calls Tryz.prog 66 #[bkp b] w fun e w' => e = .returned (.bool true) ∧ w = w' := by
  have x0 := cell_in hb hI
  clear hb hI
  go_enter Tryz.func66, Tryz.ntmps66
  go_wp2_with fail
  go_loop [3] (fun i => i = .int .i64 0) (fun _ => 0)
  case atStart => rfl
  case round =>
    obtain rfl := hrel
    go_wp2_with fail
    go_ret
    exact ⟨rfl, rfl⟩
set_option maxHeartbeats 800000 in
set_option maxRecDepth 100000 in
theorem fillReply_none {w : World} {b : Nat} {cs : Array Value} (hb : w.heap[b]? = some (.cells cs 50 (0, 0))) (hI : cs[9]? = some (.slice none 0 0)) :
    Calls Tryz.prog 49 #[bkp b] w fun e w' => (∃ v, e = .returned v) ∧ w = w' := by
  have x0 := cell_in hb hI
  clear hb hI
  go_enter Tryz.func49, Tryz.ntmps49
  go_wp2_with fail
  go_loop [2] (fun i => i = .int .i64 0) (fun _ => 0)
  case atStart => rfl
  case round =>
    obtain rfl := hrel
    go_wp2_with fail
    go_end0
    exact ⟨⟨_, rfl⟩, rfl⟩
set_option maxHeartbeats 800000 in
set_option maxRecDepth 100000 in
theorem growReply_none {w : World} {b : Nat} {cs : Array Value} (hb : w.heap[b]? = some (.cells cs 50 (0, 0))) (hI : cs[9]? = some (.slice none 0 0)) :
    Calls Tryz.prog 58 #[bkp b] w fun e w' => (∃ v, e = .returned v) ∧ w = w' := by
  have x0 := cell_in hb hI
  clear hb hI
  go_enter Tryz.func58, Tryz.ntmps58
  go_wp2_with fail
  go_loop [2] (fun i => i = .int .i64 0) (fun _ => 0)
  case atStart => rfl
  case round =>
    obtain rfl := hrel
    go_wp2_with fail
    go_end0
    exact ⟨⟨_, rfl⟩, rfl⟩
set_option maxHeartbeats 800000 in
set_option maxRecDepth 100000 in
theorem lookReply_none {w : World} {b : Nat} {cs : Array Value} (hb : w.heap[b]? = some (.cells cs 50 (0, 0))) (hI : cs[9]? = some (.slice none 0 0)) :
    Calls Tryz.prog 67 #[bkp b] w fun e w' => e = .returned (.bool true) ∧ w = w' := by
  have x0 := cell_in hb hI
  clear hb hI
  go_enter Tryz.func67, Tryz.ntmps67
  go_wp2_with fail
  go_loop [3] (fun i => i = .int .i64 0) (fun _ => 0)
  case atStart => rfl
  case round =>
    obtain rfl := hrel
    go_wp2_with fail
    go_ret
    exact ⟨rfl, rfl⟩
end Go.Proofs.YtlecnlnpgghmbaaGreatDoor

/- The book that holds texts alone: Texts, Apart. (Printed by gen_bk9.py.) -/
namespace Go.Proofs.YtlecnlnpgghmbaaGreatDoor
set_option linter.unusedVariables false
set_option linter.unusedSimpArgs false
open Go.RowKit
abbrev nilV : Value := .slice none 0 0
abbrev bookC (c : Nat) (tv : Value) : Array Value := #[.int .i64 (c : Int), nilV, nilV, tv, nilV, nilV, nilV, nilV, nilV, nilV]
/-- A book that holds these lists of texts; its blocks. -/
structure BookT (w0 w : World) (b : Nat) (tv : Value) (E : List Held) (Bk : Nat → Prop) : Prop where
  base : Base w0 w
  head : w.heap[b]? = some (.cells (bookC E.length tv) 50 (0, 0))
  row : SliceN w 0 85 3 tv E.length (heldC E)
  offbt : vblock tv ≠ some b
  all : ∀ k, Bk k ↔ k = b ∨ vblock tv = some k ∨ blocksV E k
  old : ∀ k, Bk k → w0.heap.size ≤ k
  few : E.length ≤ 1000000
  small : ∀ h ∈ E, h.n ≤ 1000000000 ∧ h.m ≤ 1000000000
  got : ∀ h ∈ E, ∃ xs, SliceN w 0 9 1 h.v h.n xs
  gnil : ∀ h ∈ E, h.g = nilV
  apart : ∀ i j (hi : i < E.length) (hj : j < E.length), i ≠ j → ∀ k, vblock E[i].v = some k → vblock E[j].v ≠ some k
  offb : ∀ h ∈ E, vblock h.v ≠ some b
  offt : ∀ h ∈ E, ∀ k, vblock h.v = some k → vblock tv ≠ some k
section
variable {w0 w w' : World} {b : Nat} {tv : Value} {E : List Held} {Bk : Nat → Prop}
theorem BookT.lt (h : BookT w0 w b tv E Bk) {k : Nat} (hk : Bk k) : k < w.heap.size := by
  rcases (h.all k).1 hk with rfl | hk | ⟨x, hx, e⟩
  · exact heap_lt h.head
  · exact (h.row.block_lt hk).2
  · obtain ⟨xs, hs⟩ := h.got x hx
    exact (hs.block_lt e).2
theorem BookT.chg (h : BookT w0 w b tv E Bk) {S : Nat → Prop} (hc : Chg S w w') (hn : ∀ k, Bk k → ¬ S k) (hS : ∀ k, S k → w0.heap.size ≤ k) : BookT w0 w' b tv E Bk :=
  { h with base := h.base.chg hc hS, head := hc.keep h.head (hn b ((h.all b).2 (.inl rfl))), row := h.row.chg hc fun k hk => hn k ((h.all k).2 (.inr (.inl hk))),
           got := fun x hx => by obtain ⟨xs, hs⟩ := h.got x hx; exact ⟨xs, hs.chg hc fun k hk => hn k ((h.all k).2 (.inr (.inr ⟨x, hx, hk⟩)))⟩ }
theorem BookT.below (h : BookT w0 w b tv E Bk) (hb : Below w.heap.size w w') : BookT w0 w' b tv E Bk := h.chg (Chg.of_below (fun _ => False) hb) (fun _ _ => id) fun _ => False.elim
theorem BookT.holds (h : BookT w0 w b tv E Bk) : Holds w b 3 85 9 1 tv E :=
  ⟨⟨_, h.head, rfl⟩, h.row, h.few, h.small, h.got, h.apart, h.offb, h.offt⟩
theorem SliceIs.toN {B : Nat} {e : TypeId} {v : Value} {n : Nat} {xs : List Value} (h : SliceIs w B e v n xs) : SliceN w 0 e 1 v n xs := by
  refine ⟨by rw [h.1, Nat.mul_one], h.2.imp id ?_⟩
  rintro ⟨g, cap, cur, e1, h2, h3, h4, h5, h6, h7⟩
  exact ⟨g, cap, cur, e1, Nat.zero_le _, h3, by rw [h4, Nat.mul_one], h5, h6, by rw [Nat.mul_one]; exact h7⟩
/-- One more list is told to it: one that was made since. -/
theorem BookT.keep {w1 : World} (h : BookT w0 w b tv E Bk) (hb : Below w.heap.size w w1) (hE : E.length < 1000000) {a : Option Addr} {n cap : Nat} {xs : List Value} (hv : SliceIs w1 w.heap.size 9 (.slice a n cap) n xs) (hn : n ≤ 1000000000) :
    Calls Tryz.prog 11 #[bkp b, .slice a n cap] w1 fun e w' => (∃ v, e = .returned v) ∧ (∃ tv' Bk', BookT w0 w' b tv' (E ++ [⟨.slice a n cap, nilV, n, E.length + 1⟩]) Bk' ∧ ∀ k, Bk' k → Bk k ∨ w.heap.size ≤ k) ∧ Chg Bk w1 w' := by
  have h1 := h.below hb
  have hvn := hv.toN
  have hfr : ∀ k, vblock (.slice a n cap) = some k → w.heap.size ≤ k := fun k hk => (hv.block_lt hk).1
  refine (texts_any h1.head rfl rfl h1.row h1.offbt (by omega) (by omega) a n cap).mono ?_
  rintro e w' ⟨he, tv', k1, k2, k3, k4⟩
  have hS : Chg Bk w1 w' := k4.mono fun k hk _ => by
    rcases hk with rfl | hk
    · exact (h.all _).2 (.inl rfl)
    · exact (h.all _).2 (.inr (.inl hk))
  have hsz : w.heap.size ≤ w1.heap.size := hb.size
  have hvS : ∀ k, vblock (.slice a n cap) = some k → ¬ (k = b ∨ vblock tv = some k) := fun k hk hS => by
    have := hfr k hk
    have : k < w.heap.size := h.lt ((h.all k).2 (hS.imp id .inl))
    omega
  have htb : vblock tv' ≠ some b := by
    rcases k3 with e2 | ⟨x, e2, hx⟩
    · rw [e2]; exact h.offbt
    · rw [e2]
      intro e3; cases e3
      have := h.lt ((h.all b).2 (.inl rfl))
      omega
  have hnew : ∀ x ∈ E ++ [(⟨.slice a n cap, nilV, n, E.length + 1⟩ : Held)], x ∈ E ∨ x = ⟨.slice a n cap, nilV, n, E.length + 1⟩ := fun x hx => by simpa using hx
  refine ⟨he, ⟨tv', fun k => k = b ∨ vblock tv' = some k ∨ blocksV (E ++ [⟨.slice a n cap, nilV, n, E.length + 1⟩]) k, ⟨⟨h1.base.laid, ?_⟩, ?_, k2, htb, fun k => Iff.rfl, ?_, ?_, ?_, ?_, ?_, ?_, ?_, ?_⟩, ?_⟩, hS⟩
  · exact belowChg h1.base.bel hS h1.base.bel.size fun k hk _ => h.old k hk
  · rw [k1, List.length_append, List.length_singleton]; rfl
  · rintro k (rfl | hk | ⟨x, hx, hk⟩)
    · exact h.old _ ((h.all _).2 (.inl rfl))
    · rcases k3 with e2 | ⟨y, e2, hy⟩
      · rw [e2] at hk; exact h.old _ ((h.all _).2 (.inr (.inl hk)))
      · rw [e2] at hk; cases hk; have := h1.base.bel.size; omega
    · rcases hnew x hx with hx | rfl
      · exact h.old _ ((h.all _).2 (.inr (.inr ⟨x, hx, hk⟩)))
      · have := hfr k hk; have := h.base.bel.size; omega
  · rw [List.length_append, List.length_singleton]; omega
  · intro x hx
    rcases hnew x hx with hx | rfl
    · exact h.small x hx
    · exact ⟨hn, by show E.length + 1 ≤ _; omega⟩
  · intro x hx
    rcases hnew x hx with hx | rfl
    · obtain ⟨ys, hs⟩ := h1.got x hx
      exact ⟨ys, hs.chg k4 fun k hk hS => by
        rcases hS with rfl | hS
        · exact h.offb x hx hk
        · exact h.offt x hx k hk hS⟩
    · exact ⟨xs, hvn.chg k4 hvS⟩
  · intro x hx
    rcases hnew x hx with hx | rfl
    · exact h.gnil x hx
    · rfl
  · have hlt : ∀ x ∈ E, ∀ k, vblock x.v = some k → k < w.heap.size := fun x hx k hk => h.lt ((h.all k).2 (.inr (.inr ⟨x, hx, hk⟩)))
    intro i j hi hj hij k hki hkj
    rw [List.length_append, List.length_singleton] at hi hj
    by_cases hiE : i < E.length
    · rw [List.getElem_append_left hiE] at hki
      by_cases hjE : j < E.length
      · rw [List.getElem_append_left hjE] at hkj
        exact h.apart i j hiE hjE hij k hki hkj
      · obtain rfl : j = E.length := by omega
        rw [List.getElem_append_right (by omega)] at hkj
        simp only [Nat.sub_self, List.getElem_cons_zero] at hkj
        have := hlt _ (List.getElem_mem hiE) k hki
        have := hfr k hkj
        omega
    · obtain rfl : i = E.length := by omega
      rw [List.getElem_append_right (by omega)] at hki
      simp only [Nat.sub_self, List.getElem_cons_zero] at hki
      have hjE : j < E.length := by omega
      rw [List.getElem_append_left hjE] at hkj
      have := hlt _ (List.getElem_mem hjE) k hkj
      have := hfr k hki
      omega
  · intro x hx e
    rcases hnew x hx with hx | rfl
    · exact h.offb x hx e
    · exact hvS b e (.inl rfl)
  · intro x hx k hk e
    rcases k3 with e2 | ⟨y, e2, hy⟩
    · rw [e2] at e
      rcases hnew x hx with hx | rfl
      · exact h.offt x hx k hk e
      · exact hvS k hk (.inr e)
    · rw [e2] at e; cases e
      rcases hnew x hx with hx | rfl
      · have := h.lt ((h.all k).2 (.inr (.inr ⟨x, hx, hk⟩))); omega
      · have := (hv.block_lt hk).2; omega
  · rintro k (rfl | hk | ⟨x, hx, hk⟩)
    · exact .inl ((h.all _).2 (.inl rfl))
    · rcases k3 with e2 | ⟨y, e2, hy⟩
      · rw [e2] at hk; exact .inl ((h.all _).2 (.inr (.inl hk)))
      · rw [e2] at hk; cases hk; exact .inr (by omega)
    · rcases hnew x hx with hx | rfl
      · exact .inl ((h.all _).2 (.inr (.inr ⟨x, hx, hk⟩)))
      · exact .inr (hfr k hk)
end
set_option maxHeartbeats 6400000 in
set_option maxRecDepth 100000 in
theorem BookT.apart_any {w0 w : World} {b : Nat} {tv : Value} {E : List Held} {Bk : Nat → Prop} (h : BookT w0 w b tv E Bk) :
    Calls Tryz.prog 15 #[bkp b] w fun e w' => e = .returned (.bool true) ∧ Chg Bk w w' := by
  have HT1 := Lib.hid (fillText_any h.base h.holds (fun k hk => h.old k ((h.all k).2 (.inr (.inr hk)))) h.gnil)
  have HH := Lib.hid h

  have HfillByte := Lib.hid (fillByte_none (HH.out.head) (show (bookC E.length tv)[1]? = some nilV from rfl))
  have HfillInt := Lib.hid (fillInt_none (HH.out.head) (show (bookC E.length tv)[2]? = some nilV from rfl))
  clear h
  go_enter Tryz.func15, Tryz.ntmps15
  go_wp2_with fail
  refine HfillByte.out.mono ?_
  rintro e w' ⟨⟨v, rfl⟩, rfl⟩
  go_wp2_with fail
  refine HfillInt.out.mono ?_
  rintro e w' ⟨⟨v, rfl⟩, rfl⟩
  go_wp2_with fail
  refine HT1.out.mono ?_
  rintro e w1 ⟨⟨v, rfl⟩, hm1, hc1⟩
  have hcB : Chg Bk w w1 := hc1.mono fun k hk _ => (HH.out.all k).2 (.inr (.inr hk))
  have hd1 : w1.heap[b]? = some (.cells (bookC E.length tv) 50 (0, 0)) := hc1.keep HH.out.head fun ⟨x, hx, e⟩ => HH.out.offb x hx e
  have h1 : Holds w1 b 3 85 9 1 tv E := ⟨⟨_, hd1, rfl⟩, HH.out.row.chg hc1 fun k hk ⟨x, hx, e⟩ => HH.out.offt x hx k e hk, HH.out.few, HH.out.small, fun x hx => ⟨_, hm1 x hx⟩, HH.out.apart, HH.out.offb, HH.out.offt⟩
  have hB1 : Base w0 w1 := HH.out.base.chg hcB HH.out.old
  have HT2 := Lib.hid (growText_any hB1 h1 (fun k hk => HH.out.old k ((HH.out.all k).2 (.inr (.inr hk)))) HH.out.gnil hm1 (fun k hk => HH.out.old k ((HH.out.all k).2 (.inr (.inl hk)))) HH.out.offbt)
  have HD1 := Lib.hid hd1
  have HC1 := Lib.hid (And.intro hcB hB1)
  have HfillPair := Lib.hid (fillPair_none HD1.out (show (bookC E.length tv)[4]? = some nilV from rfl))
  have HfillScored := Lib.hid (fillScored_none HD1.out (show (bookC E.length tv)[5]? = some nilV from rfl))
  have HfillEntry := Lib.hid (fillEntry_none HD1.out (show (bookC E.length tv)[6]? = some nilV from rfl))
  have HfillItem := Lib.hid (fillItem_none HD1.out (show (bookC E.length tv)[7]? = some nilV from rfl))
  have HfillCommand := Lib.hid (fillCommand_none HD1.out (show (bookC E.length tv)[8]? = some nilV from rfl))
  have HfillReply := Lib.hid (fillReply_none HD1.out (show (bookC E.length tv)[9]? = some nilV from rfl))
  have HgrowByte := Lib.hid (growByte_none HD1.out (show (bookC E.length tv)[1]? = some nilV from rfl))
  have HgrowInt := Lib.hid (growInt_none HD1.out (show (bookC E.length tv)[2]? = some nilV from rfl))
  clear hm1 hc1 hcB hd1 h1 hB1
  go_wp2_with fail
  refine HfillPair.out.mono ?_
  rintro e w' ⟨⟨v, rfl⟩, rfl⟩
  go_wp2_with fail
  refine HfillScored.out.mono ?_
  rintro e w' ⟨⟨v, rfl⟩, rfl⟩
  go_wp2_with fail
  refine HfillEntry.out.mono ?_
  rintro e w' ⟨⟨v, rfl⟩, rfl⟩
  go_wp2_with fail
  refine HfillItem.out.mono ?_
  rintro e w' ⟨⟨v, rfl⟩, rfl⟩
  go_wp2_with fail
  refine HfillCommand.out.mono ?_
  rintro e w' ⟨⟨v, rfl⟩, rfl⟩
  go_wp2_with fail
  refine HfillReply.out.mono ?_
  rintro e w' ⟨⟨v, rfl⟩, rfl⟩
  go_wp2_with fail
  refine HgrowByte.out.mono ?_
  rintro e w' ⟨⟨v, rfl⟩, rfl⟩
  go_wp2_with fail
  refine HgrowInt.out.mono ?_
  rintro e w' ⟨⟨v, rfl⟩, rfl⟩
  go_wp2_with fail
  refine HT2.out.mono ?_
  rintro e w2 ⟨⟨v, rfl⟩, ⟨E2, hg2⟩, hc2⟩
  have hcB2 : Chg Bk w1 w2 := hc2.mono fun k hk _ => hk.elim (fun hk => (HH.out.all k).2 (.inr (.inr hk))) fun hk => (HH.out.all k).2 (.inr (.inl hk))
  have hd2 : w2.heap[b]? = some (.cells (bookC E.length tv) 50 (0, 0)) := hc2.keep HD1.out fun hk => hk.elim (fun ⟨x, hx, e⟩ => HH.out.offb x hx e) HH.out.offbt
  have hB2 : Base w0 w2 := HC1.out.2.chg hcB2 HH.out.old
  have HT3 := Lib.hid (lookText_any hB2 hg2)
  have HD2 := Lib.hid hd2
  have HC2 := Lib.hid (HC1.out.1.trans hcB2 fun k hk _ => hk)
  have HgrowPair := Lib.hid (growPair_none HD2.out (show (bookC E.length tv)[4]? = some nilV from rfl))
  have HgrowScored := Lib.hid (growScored_none HD2.out (show (bookC E.length tv)[5]? = some nilV from rfl))
  have HgrowEntry := Lib.hid (growEntry_none HD2.out (show (bookC E.length tv)[6]? = some nilV from rfl))
  have HgrowItem := Lib.hid (growItem_none HD2.out (show (bookC E.length tv)[7]? = some nilV from rfl))
  have HgrowCommand := Lib.hid (growCommand_none HD2.out (show (bookC E.length tv)[8]? = some nilV from rfl))
  have HgrowReply := Lib.hid (growReply_none HD2.out (show (bookC E.length tv)[9]? = some nilV from rfl))
  have HlookByte := Lib.hid (lookByte_none HD2.out (show (bookC E.length tv)[1]? = some nilV from rfl))
  have HlookInt := Lib.hid (lookInt_none HD2.out (show (bookC E.length tv)[2]? = some nilV from rfl))
  clear hg2 hc2 hcB2 hd2 hB2
  go_wp2_with fail
  refine HgrowPair.out.mono ?_
  rintro e w' ⟨⟨v, rfl⟩, rfl⟩
  go_wp2_with fail
  refine HgrowScored.out.mono ?_
  rintro e w' ⟨⟨v, rfl⟩, rfl⟩
  go_wp2_with fail
  refine HgrowEntry.out.mono ?_
  rintro e w' ⟨⟨v, rfl⟩, rfl⟩
  go_wp2_with fail
  refine HgrowItem.out.mono ?_
  rintro e w' ⟨⟨v, rfl⟩, rfl⟩
  go_wp2_with fail
  refine HgrowCommand.out.mono ?_
  rintro e w' ⟨⟨v, rfl⟩, rfl⟩
  go_wp2_with fail
  refine HgrowReply.out.mono ?_
  rintro e w' ⟨⟨v, rfl⟩, rfl⟩
  go_wp2_with fail
  refine HlookByte.out.mono ?_
  rintro e w' ⟨rfl, rfl⟩
  go_wp2_with fail
  refine HlookInt.out.mono ?_
  rintro e w' ⟨rfl, rfl⟩
  go_wp2_with fail
  refine HT3.out.mono ?_
  rintro e w3 ⟨rfl, b3⟩
  have HC3 := Lib.hid (HC2.out.trans (Chg.of_below Bk b3) fun k hk _ => hk)
  have HD3 := Lib.hid ((Chg.of_below (fun _ => False) b3).keep HD2.out id)
  have HlookPair := Lib.hid (lookPair_none HD3.out (show (bookC E.length tv)[4]? = some nilV from rfl))
  have HlookScored := Lib.hid (lookScored_none HD3.out (show (bookC E.length tv)[5]? = some nilV from rfl))
  have HlookEntry := Lib.hid (lookEntry_none HD3.out (show (bookC E.length tv)[6]? = some nilV from rfl))
  have HlookItem := Lib.hid (lookItem_none HD3.out (show (bookC E.length tv)[7]? = some nilV from rfl))
  have HlookCommand := Lib.hid (lookCommand_none HD3.out (show (bookC E.length tv)[8]? = some nilV from rfl))
  have HlookReply := Lib.hid (lookReply_none HD3.out (show (bookC E.length tv)[9]? = some nilV from rfl))
  clear b3
  go_wp2_with fail
  refine HlookPair.out.mono ?_
  rintro e w' ⟨rfl, rfl⟩
  go_wp2_with fail
  refine HlookScored.out.mono ?_
  rintro e w' ⟨rfl, rfl⟩
  go_wp2_with fail
  refine HlookEntry.out.mono ?_
  rintro e w' ⟨rfl, rfl⟩
  go_wp2_with fail
  refine HlookItem.out.mono ?_
  rintro e w' ⟨rfl, rfl⟩
  go_wp2_with fail
  refine HlookCommand.out.mono ?_
  rintro e w' ⟨rfl, rfl⟩
  go_wp2_with fail
  refine HlookReply.out.mono ?_
  rintro e w' ⟨rfl, rfl⟩
  go_wp2_with fail
  go_ret
  exact ⟨rfl, HC3.out⟩
end Go.Proofs.YtlecnlnpgghmbaaGreatDoor
