/- The walks of the layer ints, part 4: Add. -/
import Derived.Test.YtncdckakcmoejaaInts3
namespace Go.Proofs.Ytncdckakcmoejaa
set_option linter.unusedVariables false
set_option linter.unusedSimpArgs false
open Go.RowKit

def hd8 (W n : Nat) : List Value := (leN 4 W ++ leN 4 n).map u8v
@[simp] theorem hd8_length (W n : Nat) : (hd8 W n).length = 8 := by simp [hd8]
def fl (W : Nat) (L : List Int) : List Value := (L.flatMap (encW W)).map u8v
@[simp] theorem fl_length (W : Nat) (L : List Int) : (fl W L).length = L.length * W := by simp only [fl, List.length_map, flat_length]
theorem fl_append (W : Nat) (L M : List Int) : fl W (L ++ M) = fl W L ++ fl W M := by simp [fl]
theorem fl_one (W : Nat) (x : Int) : fl W [x] = (encW W x).map u8v := by simp [fl]
theorem ints_split (L : List Int) (W r : Nat) : (intsBytes L W).map u8v = hd8 W L.length ++ (fl W (L.take r) ++ fl W (L.drop r)) := by
  rw [← fl_append, List.take_append_drop]
  simp [intsBytes, hd8, fl]
/-- A number put in at its place. -/
def insAt (L : List Int) (r : Nat) (x : Int) : List Int := L.take r ++ x :: L.drop r
theorem insAt_length (L : List Int) (r : Nat) (x : Int) (h : r ≤ L.length) : (insAt L r x).length = L.length + 1 := by
  simp [insAt]; omega
theorem insAt_mem (L : List Int) (r : Nat) (x y : Int) : y ∈ insAt L r x ↔ y = x ∨ y ∈ L := by
  unfold insAt
  rw [List.mem_append, List.mem_cons]
  conv => rhs; rw [← List.take_append_drop r L, List.mem_append]
  constructor
  · rintro (h | h | h)
    · exact .inr (.inl h)
    · exact .inl h
    · exact .inr (.inr h)
  · rintro (h | h | h)
    · exact .inr (.inl h)
    · exact .inl h
    · exact .inr (.inr h)
theorem ins_bytes (L : List Int) (W r : Nat) (x : Int) (h : r ≤ L.length) : (intsBytes (insAt L r x) W).map u8v = hd8 W (L.length + 1) ++ (fl W (L.take r) ++ ((encW W x).map u8v ++ fl W (L.drop r))) := by
  rw [ints_split _ W (insAt L r x).length, insAt_length L r x h, List.take_of_length_le (by rw [insAt_length L r x h]; omega), List.drop_eq_nil_of_le (by rw [insAt_length L r x h]; omega)]
  rw [show fl W [] = [] from rfl, List.append_nil, insAt, fl_append, show x :: L.drop r = [x] ++ L.drop r from rfl, fl_append, fl_one]
theorem count_bytes {cur : Array Value} {W n m : Nat} {R : List Value} (h : cur.toList = hd8 W n ++ R) : (wrs cur 4 ((leN 4 m).map u8v)).toList = hd8 W m ++ R := by
  have := row_wrs (a := (leN 4 W).map u8v) (b := (leN 4 n).map u8v) (c := R) (b' := (leN 4 m).map u8v) (by rw [h, hd8]; simp) (by simp) (o := 4) (by simp)
  rw [this, hd8]; simp
theorem split_len {α : Type} (l : List α) (n m : Nat) (h : l.length = n + m) : ∃ X Y, l = X ++ Y ∧ X.length = n ∧ Y.length = m :=
  ⟨l.take n, l.drop n, (List.take_append_drop n l).symm, by simp; omega, by simp; omega⟩
theorem wants_cases (x : Int) : wantsN x = 2 ∨ wantsN x = 4 ∨ wantsN x = 8 := by
  unfold wantsN; split
  · simp
  · split <;> simp
theorem fits_wants (x : Int) (h : -9223372036854775808 ≤ x ∧ x ≤ 9223372036854775807) (W : Nat) (hW : W = 2 ∨ W = 4 ∨ W = 8) : fitsW W x ↔ wantsN x ≤ W := by
  unfold fitsW wantsN
  split
  · omega
  · split <;> omega
/-- What Add does. -/
def Added (w : World) (p g : Nat) (L : List Int) (W : Nat) (x : Int) (e : Ending) (w' : World) : Prop :=
  e = .returned (.bool (decide (x ∉ L))) ∧ ∃ L' g' cap' cur', IntsRow w' p g' cap' cur' L' (max W (wantsN x)) ∧ (x ∈ L → L' = L) ∧ (x ∉ L → ∃ r, PlaceOf L x r ∧ L' = insAt L r x) ∧
    (g' = g ∨ w.heap.size ≤ g') ∧ Chg (fun b => b = p ∨ b = g) w w'
set_option maxHeartbeats 3200000 in
set_option maxRecDepth 100000 in
theorem add_row {w : World} {p g cap : Nat} {cur : Array Value} {L : List Int} {W : Nat} (h : IntsRow w p g cap cur L W) (hL : L.Pairwise (· < ·)) (x : Int) (hx : -9223372036854775808 ≤ x ∧ x ≤ 9223372036854775807) (hf : L.length < 100000000) :
    Calls Try.prog 21 #[.pointer (some ⟨p, 0, none⟩), .int .i64 x] w (Added w p g L W x) := by
  have c0 := h.cell0
  have c2 := h.cell2
  have HWn := Lib.hid (wants_any x w hx)
  have HH := Lib.hid h
  have HL := Lib.hid hL
  have HX := Lib.hid hx
  have hwc := wants_cases x
  have hW := h.width
  have HF := Lib.hid hf
  obtain ⟨i0, hi, hz0, hz1, hz2⟩ := info_parts info_u8
  have HI := Lib.hid (And.intro hi (And.intro hz0 (And.intro hz1 hz2)))
  clear hi hz0 hz1 hz2
  by_cases hwide : W < wantsN x
  · have hni : x ∉ L := fun hxL => by
      have := (fits_wants x hx W hW).1 (h.fits x hxL)
      omega
    have HWd := Lib.hid (widen_row h (wantsN x) (by omega) hwide)
    have HNI := Lib.hid hni
    have hmax : max W (wantsN x) = wantsN x := by omega
    have HM := Lib.hid hmax
    have HFW := Lib.hid ((fits_wants x hx (wantsN x) hwc).2 (Nat.le_refl _))
    generalize hwx : wantsN x = W1 at *
    have HWX := Lib.hid hwx
    have HWW := Lib.hid hwc
    have hpg := heap_lt h.head
    have HPG := Lib.hid hpg
    clear hwx h hL hx hwc hW hf hni hmax hpg
    go_enter Try.func21, Try.ntmps21
    go_wp2_with fail
    refine HWn.out.mono ?_
    rintro e w' ⟨rfl, rfl⟩
    go_wp2_with fail
    refine HWd.out.mono ?_
    rintro e w1 ⟨rfl, h1, h2⟩
    have KC := Lib.hid (show Chg (fun b => b = p ∨ b = g) w w1 from h2.mono fun _ h _ => .inl h)
    have KG := Lib.hid (show w.heap.size + 1 = g ∨ w.heap.size ≤ w.heap.size + 1 by omega)
    have KN := Lib.hid (show ∀ b, b < w.heap.size → b = w.heap.size + 1 → b = g by omega)
    have hmem : decide (x ∈ L) = false := by simpa using HNI.out
    have HS := Lib.hid (seek_row h1 HL.out (x := x))
    have H1 := Lib.hid h1
    clear h1 h2 c0 c2 HWn HWd
    generalize (intsBytes L W1).map u8v = bb at *
    generalize hcp1 : 8 + L.length * W1 = cap1 at *
    clear hcp1
    generalize w.heap.size + 1 = g1 at *
    obtain ⟨cur1, hcur1⟩ : ∃ cur1, cur1 = bb.toArray := ⟨_, rfl⟩
    rw [← hcur1] at H1
    clear hcur1
    go_wp2_with fail
    refine HS.out.mono ?_
    rintro e w2 ⟨r, hr, rfl, hb⟩
    have H2 := Lib.hid (H1.out.chg (Chg.of_below (fun _ => False) hb) id id)
    have KC2 := Lib.hid (KC.out.trans (Chg.of_below (fun _ => False) hb) fun _ h _ => h.elim)
    have HR := Lib.hid hr
    have HCt := Lib.hid (count_row H2.out 1 (L.length + 1) (by omega) (by omega))
    clear hr hb HS H1 KC
    go_wp2_with fail
    refine HCt.out.mono ?_
    rintro e w3 ⟨rfl, k3, hw3⟩
    have h2 := H2.out
    have hne := h2.ne
    have d3 := (setRow_other (w2.drewN k3) g1 p (wrs cur1 4 ((leN 4 (L.length + 1)).map u8v)) (Ne.symm hne)).trans h2.head
    have r3 := (h2.row.drewN k3).setRow (cs := wrs cur1 4 ((leN 4 (L.length + 1)).map u8v)) (by simp)
    rw [← hw3] at d3 r3
    have KC3 := Lib.hid (KC2.out.trans (show Chg (fun b => b = g1) w2 w3 by rw [hw3]; exact (Chg.drewN _ _ _).trans (Chg.setRow (fun b => b = g1) _ _ _ rfl) fun _ h _ => h) fun b h hl => .inr (KN.out b hl h))
    obtain ⟨R, hR⟩ := row_take h2.bytes
    rw [ints_split L W1 r, List.append_assoc] at hR
    have t3 := count_bytes (m := L.length + 1) hR
    have z3 : (wrs cur1 4 ((leN 4 (L.length + 1)).map u8v)).size = cap1 := by rw [wrs_size]; exact h2.size
    generalize wrs cur1 4 ((leN 4 (L.length + 1)).map u8v) = curA at *
    have c03 := cell_in d3 (i := 0) rfl
    have c23 := cell_in d3 (i := 2) rfl
    have hW1 := HWW.out
    have hrl := HR.out.1
    have few := HF.out
    have hle1 := h2.le
    have hcm1 := h2.capm
    obtain ⟨q, hq⟩ : ∃ q, q = r * W1 := ⟨_, rfl⟩
    have e1 : (r : Int) * (W1 : Int) = (q : Int) := by rw [hq]; push_cast; rfl
    have hqm : q + (L.length - r) * W1 = L.length * W1 := by rw [hq, ← Nat.add_mul]; congr 1; omega
    have hqb : q ≤ 800000000 := by rw [hq]; rcases hW1 with h | h | h <;> rw [h] <;> omega
    have hlb : L.length * W1 ≤ 800000000 := by rcases hW1 with h | h | h <;> rw [h] <;> omega
    obtain ⟨hi, hz0, hz1, hz2⟩ := HI.out
    obtain ⟨v4, w4, hrun4, happ⟩ := run_append_zeros (P := Try.prog) (w3.drewN 1) 44 3 44 5 .i64 i0 (.int .u8 0) 1 Try.underlying44 Try.underlying3 hi hz0 hz1 hz2 rfl rfl g1 (8 + L.length * W1) cap1 curA r3 z3 hle1 hcm1 W1 (by omega) (by unfold maxLen; omega) (by omega)
    obtain ⟨g4, cap4, cur4, rfl, r4, z4, le4, cm4, t4, hg4, hc4⟩ := happ
    have d4 := hc4.keep d3 (by simp; exact Ne.symm hne)
    have KC4 := Lib.hid (KC3.out.trans ((Chg.drewN (fun b => b = g1) w3 1).trans (hc4.mono (S' := fun b => b = g1) fun i h _ => by simpa using h) fun _ h _ => h) fun b h hl => .inr (KN.out b hl h))
    have hw3s : g1 < w3.heap.size := r3.lt
    have hp3s : p < w3.heap.size := heap_lt d3
    have hg4n : g4 ≠ p := by rcases hg4 with h | h <;> simp at h <;> omega
    obtain ⟨R2, hR2⟩ := row_take t4
    rw [t3] at hR2
    have hA : (fl W1 (L.take r)).length = q := by rw [fl_length, List.length_take, Nat.min_eq_left hrl, hq]
    have hC : (fl W1 (L.drop r)).length = L.length * W1 - q := by rw [fl_length, List.length_drop]; omega
    have hcutA : (hd8 W1 (L.length + 1) ++ (fl W1 (L.take r) ++ fl W1 (L.drop r) ++ R)).take (8 + L.length * W1) = hd8 W1 (L.length + 1) ++ (fl W1 (L.take r) ++ fl W1 (L.drop r)) := by
      rw [← List.append_assoc, List.take_left' (by simp only [List.length_append, hd8_length, hA, hC]; omega)]
    rw [hcutA] at hR2
    obtain ⟨X, Y, hXY, hX, hY⟩ := split_len (fl W1 (L.drop r) ++ List.replicate W1 (Value.int .u8 0)) W1 (L.length * W1 - q) (by rw [List.length_append, hC, List.length_replicate]; omega)
    have hcur4 : cur4.toList = (hd8 W1 (L.length + 1) ++ fl W1 (L.take r) ++ X) ++ (Y ++ R2) := by
      rw [hR2]
      simp only [List.append_assoc]
      rw [← List.append_assoc (fl W1 (L.drop r)), hXY]
      simp only [List.append_assoc]
    have hcur4' : cur4.toList = (hd8 W1 (L.length + 1) ++ fl W1 (L.take r)) ++ (fl W1 (L.drop r) ++ (List.replicate W1 (Value.int .u8 0) ++ R2)) := by
      rw [hR2]; simp only [List.append_assoc]
    obtain ⟨w5, hw5⟩ : ∃ w5, w5 = w4.setCell ⟨p, 0, none⟩ (.slice (some ⟨g4, 0, none⟩) (8 + L.length * W1 + W1) cap4) := ⟨_, rfl⟩
    have e5 := setCell_eq_setRow w4 p 0 _ _ _ (.slice (some ⟨g4, 0, none⟩) (8 + L.length * W1 + W1) cap4) d4
    rw [← hw5] at e5
    have d5 : w5.heap[p]? = some (.cells #[.slice (some ⟨g4, 0, none⟩) (8 + L.length * W1 + W1) cap4, .func (.func (getF W1)) #[] #[], .int .i64 W1] 47 (0, 0)) := by rw [e5]; exact heap_setRow d4 _
    have r5 : RowAt w5 g4 5 cur4 := by rw [e5]; exact r4.other _ hg4n
    have KC5 := Lib.hid (KC4.out.trans (show Chg (fun b => b = p) w4 w5 by rw [e5]; exact Chg.setRow _ _ _ _ rfl) fun b h _ => .inl h)
    have hlen4 : cap4 = (8 + q + W1) + ((L.length * W1 - q) + R2.length) := by
      have := congrArg List.length hcur4
      simp only [List.length_append, hd8_length, hA, hX, hY, Array.length_toList] at this
      omega
    -- the copy, and what it leaves
    obtain ⟨cur6, hcur6⟩ : ∃ cur6, cur6 = spliced cur4 (8 + q + W1) (fl W1 (L.drop r)) := ⟨_, rfl⟩
    have t6 : cur6.toList = (hd8 W1 (L.length + 1) ++ fl W1 (L.take r)) ++ (X ++ (fl W1 (L.drop r) ++ R2)) := by
      rw [hcur6, row_splice hcur4 (by rw [hC, hY]) (by simp only [List.length_append, hd8_length, hA, hX])]
      simp only [List.append_assoc]
    have z6 : cur6.size = cap4 := by rw [hcur6, spliced_size _ _ _ (by rw [hC]; omega)]; omega
    have hone : ∀ u ∈ fl W1 (L.drop r), u.oneCell' = true := fun u hu => by
      obtain ⟨c, _, rfl⟩ := List.mem_map.1 hu
      rfl
    have hcpy : ∀ k, (Builtin.copy_ #[44, 44] 3 #[.slice (some ⟨g4, 8 + q + W1, none⟩) (8 + L.length * W1 + W1 - (8 + q + W1)) (cap4 - (8 + q + W1)), .slice (some ⟨g4, 8 + q, none⟩) (8 + L.length * W1 + W1 - (8 + q)) (cap4 - (8 + q))]).run Try.prog (w5.drewN k) =
        .ok (.int .i64 ((L.length * W1 - q : Nat) : Int)) ((w5.drewN k).setRow g4 cur6) := fun k => by
      rw [hcur6]
      exact run_copy_row (w5.drewN k) _ _ _ _ i0 Try.underlying44 hi hz1 g4 (8 + q + W1) _ _ cur4 r5 ⟨g4, 8 + q, none⟩ _ _ (L.length * W1 - q) (by omega) (by omega) _ hC
        (row_cells (r5.drewN k) hcur4' (by simp only [List.length_append, hd8_length, hA])) hone
    have hcpy0 : 8 + q + W1 = cap4 → ∀ k, (Builtin.copy_ #[44, 44] 3 #[.slice (some ⟨g4, 0, none⟩) (8 + L.length * W1 + W1 - (8 + q + W1)) (cap4 - (8 + q + W1)), .slice (some ⟨g4, 8 + q, none⟩) (8 + L.length * W1 + W1 - (8 + q)) (cap4 - (8 + q))]).run Try.prog (w5.drewN k) =
        .ok (.int .i64 ((L.length * W1 - q : Nat) : Int)) ((w5.drewN k).setRow g4 cur6) := fun hcap k => by
      have hC0 : fl W1 (L.drop r) = [] := List.eq_nil_of_length_eq_zero (by rw [hC]; omega)
      have h6 : cur6 = spliced cur4 0 [] := by
        rw [hcur6, hC0]; simp [spliced]
      rw [h6]
      exact run_copy_row (w5.drewN k) _ _ _ _ i0 Try.underlying44 hi hz1 g4 0 _ _ cur4 r5 ⟨g4, 8 + q, none⟩ _ _ (L.length * W1 - q) (by omega) (by omega) [] (by simp; omega) (by simp) (by simp)
    have hcpyI : ∀ k, (Builtin.copy_ #[44, 44] 3 #[.slice (if cap4 = 8 + q + W1 then some ⟨g4, 0, none⟩ else some ⟨g4, 8 + q + W1, none⟩) (8 + L.length * W1 + W1 - (8 + q + W1)) (cap4 - (8 + q + W1)), .slice (some ⟨g4, 8 + q, none⟩) (8 + L.length * W1 + W1 - (8 + q)) (cap4 - (8 + q))]).run Try.prog (w5.drewN k) =
        .ok (.int .i64 ((L.length * W1 - q : Nat) : Int)) ((w5.drewN k).setRow g4 cur6) := fun k => by
      split
      · rename_i hcap; exact hcpy0 hcap.symm k
      · exact hcpy k
    -- the number put in
    have hpl : ∀ k, Calls Try.prog 48 #[.pointer (some ⟨p, 0, none⟩), .int .i64 r] ((w5.drewN k).setRow g4 cur6) fun e w' => e = .returned (.slice (some ⟨g4, 8 + q, none⟩) W1 (cap4 - (8 + q))) ∧ ∃ n, w' = ((w5.drewN k).setRow g4 cur6).drewN n := fun k => by
      have d6 := (setRow_other (w5.drewN k) g4 p cur6 (Ne.symm hg4n)).trans d5
      rw [hq]
      exact place_row d6 hW1 (by omega) (by rw [Nat.succ_mul, ← hq]; omega) cm4
    obtain ⟨cur7, hcur7⟩ : ∃ cur7, cur7 = wrs cur6 (8 + q) ((encW W1 x).map u8v) := ⟨_, rfl⟩
    have t7 : cur7.toList = (intsBytes (insAt L r x) W1).map u8v ++ R2 := by
      rw [hcur7, row_wrs t6 (by simp [hX]) (by simp only [List.length_append, hd8_length, hA]), ins_bytes L W1 r x hrl]
      simp only [List.append_assoc]
    have hins := insAt_length L r x hrl
    have hn7 : 8 + L.length * W1 + W1 = 8 + (insAt L r x).length * W1 := by rw [hins, Nat.succ_mul]; omega
    have hfin : ∀ k n, IntsRow ((((w5.drewN k).setRow g4 cur6).drewN n).setRow g4 cur7) p g4 cap4 cur7 (insAt L r x) W1 := fun k n => by
      refine ⟨?_, ?_, hg4n, by rw [hcur7, wrs_size]; exact z6, by rw [← hn7]; exact le4, cm4, ?_, HWW.out, ?_, by rw [hins]; omega⟩
      · rw [setRow_other _ _ _ _ (Ne.symm hg4n)]
        rw [← hn7]
        exact (setRow_other (w5.drewN k) g4 p cur6 (Ne.symm hg4n)).trans d5
      · exact ((((r5.drewN k).setRow (by rw [z6]; omega)).drewN n).setRow (by rw [hcur7, wrs_size]))
      · rw [t7, List.take_left' (by rw [List.length_map, intsBytes_length])]
      · intro y hy
        rcases (insAt_mem L r x y).1 hy with rfl | hy
        · exact HFW.out
        · exact h2.fits y hy
    have hw5s : w3.heap.size ≤ w5.heap.size := by
      have := hc4.size
      rw [e5, setRow_size]
      exact this
    have hg4' : g4 = g ∨ w.heap.size ≤ g4 := by
      have := KC3.out.size
      have hk := KG.out
      rcases hg4 with h | h
      · simp at h; omega
      · have h : w3.heap.size ≤ g4 := h
        omega
    have hchg : ∀ k n, Chg (fun b => b = p ∨ b = g) w ((((w5.drewN k).setRow g4 cur6).drewN n).setRow g4 cur7) := fun k n => by
      have s1 : Chg (fun b => b = g4) w5 ((((w5.drewN k).setRow g4 cur6).drewN n).setRow g4 cur7) :=
        (((Chg.drewN (fun b => b = g4) w5 k).trans (Chg.setRow (fun b => b = g4) _ _ _ rfl) fun _ h _ => h).trans (Chg.drewN _ _ n) fun _ h _ => h).trans (Chg.setRow (fun b => b = g4) _ _ _ rfl) fun _ h _ => h
      refine KC5.out.trans s1 fun b h hl => ?_
      rcases hg4' with h' | h'
      · exact .inr (h.trans h')
      · omega
    have HPu := Lib.hid fun c k n => put_any g4 (8 + q) W1 c (x % 18446744073709551616).toNat cur6 5 (((w5.drewN k).setRow g4 cur6).drewN n) (by omega) (by omega) ((r5.drewN k).setRow (by rw [z6]; omega))
    have HR4 := Lib.hid hrun4
    have HC7 := Lib.hid hcur7
    have HW5 := Lib.hid hw5
    have HFin := Lib.hid hfin
    have HChg := Lib.hid hchg
    have HG4 := Lib.hid hg4'
    have HPl := Lib.hid hpl
    have HCp := Lib.hid hcpyI
    have c5 := cell_in d5 (i := 0) rfl
    have c52 := cell_in d5 (i := 2) rfl
    have c4 := cell_in d4 (i := 0) rfl
    have f4 := frozen_in d4 0
    have hWp : 0 < W1 ∧ W1 ≤ 8 := by omega
    have hle4 : 8 + q + W1 ≤ 8 + L.length * W1 + W1 := by omega
    have H3W := Lib.hid hw3
    clear hcpy hcpy0 hcpyI hpl hfin hchg hg4' hcur7 hw5 hrun4 hw3 t7 hn7 hins t6 z6 hcur6 hone hcur4 hcur4' hR2 hcutA hXY hX hY hA hC hR t3 z3 t4 z4 d5 r5 d4 r4 d3 r3 e5 hi hz0 hz1 hz2 hg4 hc4 hq hqm hW1 hw3s hp3s hw5s hlen4 h2 hne hg4n HCt
    go_wp2_with fail
    -- s.b = append(s.b, make([]byte, s.size)...)
    obtain ⟨X1, f, hX1, hf, hF⟩ := classOf (fun w => w.cell? ⟨p, 0, none⟩ = some (.slice (some ⟨g1, 0, none⟩) (8 + L.length * W1) cap1) ∧ w.cell? ⟨p, 2, none⟩ = some (.int .i64 W1)) ⟨c03, c23⟩
    have hf1 := fun x => (hf x).1
    have hf2 := fun x => (hf x).2
    have HF1 := Lib.hid (fun k => hF (w3.drewN k) ⟨c03, c23⟩)
    clear hF hf
    refine wp_region_text ⟨[9, 12], [0, 10, 11], 9⟩ (fun w' => ∃ x : X1, w' = f x) (by kernel_rfl) (by kernel_rfl) (HF1.out 1) ?_
    refine wpC_seg true (HF1.out 1) 1 0 _ _ (by rfl) (by rfl) ?_
    simp only [List.take_succ_cons, List.take_zero, List.drop_succ_cons, List.drop_zero, if_true, Nat.zero_add, Nat.reduceAdd]
    repeat (go_big_quiet_step (fail))
    refine wpQuiet_nil ?_
    refine wpC_seg false (HF1.out 1) 8 1 _ _ (by rfl) (by rfl) ?_
    simp only [List.take_succ_cons, List.take_zero, List.drop_succ_cons, List.drop_zero, Bool.false_eq_true, if_false, Nat.zero_add, Nat.reduceAdd]
    repeat (go_big_quiet_step (fail))
    refine wpQuiet_nil ?_
    refine wpC_value (by rfl) (by rfl) (exec_append rfl HR4.out) (fun h => absurd h (by decide)) ?_
    simp only [Act.put, List.setIfInBounds_toArray, List.set_cons_succ, List.set_cons_zero]
    refine wpC_segD 2 10 _ _ (by rfl) (by rfl) ?_
    simp only [List.take_succ_cons, List.take_zero, List.drop_succ_cons, List.drop_zero, if_true, Nat.zero_add, Nat.reduceAdd]
    repeat (go_big_quiet_step (fail))
    refine wpQuiet_nil ?_
    refine wpC_loud (by rfl) (by rfl) fun K hK => ?_
    go_wp2_with fail
    rw [← HW5.out]
    refine hK _ _ (fun h => absurd h (by decide)) ?_
    refine wpC_nil ?_
    clear hK hf1 hf2 hX1 HF1 f
    go_wp2_with fail
    -- copy(s.b[at+s.size:], s.b[at:])
    obtain ⟨X1, f, hX1, hf, hF⟩ := classOf (fun w => w.cell? ⟨p, 0, none⟩ = some (.slice (some ⟨g4, 0, none⟩) (8 + L.length * W1 + W1) cap4) ∧ w.cell? ⟨p, 2, none⟩ = some (.int .i64 W1)) ⟨c5, c52⟩
    have hf1 := fun x => (hf x).1
    have hf2 := fun x => (hf x).2
    have HF1 := Lib.hid (fun k => hF (w5.drewN k) ⟨c5, c52⟩)
    clear hF hf
    have hcm4 := cm4
    unfold maxLen at hcm4
    clear c03 c23 c4 f4 c5 c52
    refine wp_region_text ⟨[17], [], 17⟩ (fun w' => ∃ x : X1, w' = f x) (by kernel_rfl) (by kernel_rfl) (HF1.out 1) ?_
    refine wpC_seg false (HF1.out 1) 17 0 _ _ (by rfl) (by rfl) ?_
    simp only [List.take_succ_cons, List.take_zero, List.drop_succ_cons, List.drop_zero, Bool.false_eq_true, if_false, Nat.zero_add, Nat.reduceAdd]
    repeat (go_big_quiet_step (fail))
    refine wpQuiet_nil ?_
    refine wpC_value (by rfl) (by rfl) (exec_copy rfl (HCp.out 1)) (fun h => absurd h (by decide)) ?_
    refine wpC_nil ?_
    clear hf1 hf2 hX1 HF1 f
    generalize (if cap4 = 8 + q + W1 then some (⟨g4, 0, none⟩ : Addr) else some ⟨g4, 8 + q + W1, none⟩) = adr
    go_wp2_with fail
    refine (HPl.out 1).mono ?_
    rintro e w6 ⟨rfl, n6, rfl⟩
    go_wp2_with fail
    rw [u64_wrap]
    refine (HPu.out _ 1 n6).mono ?_
    rintro e w7 ⟨rfl, rfl⟩
    go_wp2_with fail
    go_ret
    have e7 : wrs cur6 (8 + q) ((leN W1 (x % 18446744073709551616).toNat).map u8v) = cur7 := HC7.out.symm
    rw [e7]
    refine ⟨ret1 (by simp [HNI.out]), insAt L r x, g4, cap4, cur7, ?_, fun h => absurd h HNI.out, fun _ => ⟨r, HR.out, rfl⟩, HG4.out, HChg.out 1 n6⟩
    rw [HWX.out, HM.out]
    exact HFin.out 1 n6
  · have HM := Lib.hid (show max W (wantsN x) = W by omega)
    have HFW := Lib.hid ((fits_wants x hx W hW).2 (by omega))
    generalize hwx : wantsN x = wx at *
    have HWX := Lib.hid hwx
    have HPG := Lib.hid (heap_lt h.head)
    have HS := Lib.hid (seek_row h HL.out (x := x))
    have H1 := Lib.hid h
    have HWW := Lib.hid hW
    clear hwx h hL hx hwc hW hf
    by_cases hm : x ∈ L
    · have hmem : decide (x ∈ L) = true := by simpa using hm
      have HMem := Lib.hid hm
      clear hm
      go_enter Try.func21, Try.ntmps21
      go_wp2_with fail
      refine HWn.out.mono ?_
      rintro e w' ⟨rfl, rfl⟩
      go_wp2_with fail
      refine HS.out.mono ?_
      rintro e w2 ⟨r, hr, rfl, hb⟩
      go_wp2_with fail
      go_ret
      refine ⟨ret1 (by simp [HMem.out]), L, g, cap, cur, ?_, fun _ => rfl, fun h => absurd HMem.out h, .inl rfl, (Chg.of_below _ hb)⟩
      rw [HWX.out, HM.out]
      exact HH.out.chg (Chg.of_below (fun _ => False) hb) id id
    · have hmem : decide (x ∈ L) = false := by simpa using hm
      have HNI := Lib.hid hm
      have KC := Lib.hid (Chg.refl (fun b => b = p ∨ b = g) w)
      have KG := Lib.hid (show g = g ∨ w.heap.size ≤ g from .inl rfl)
      have KN := Lib.hid (show ∀ b, b < w.heap.size → b = g → b = g from fun b _ h => h)
      clear hm
      go_enter Try.func21, Try.ntmps21
      go_wp2_with fail
      refine HWn.out.mono ?_
      rintro e w' ⟨rfl, rfl⟩
      go_wp2_with fail
      refine HS.out.mono ?_
      rintro e w2 ⟨r, hr, rfl, hb⟩
      have H2 := Lib.hid (H1.out.chg (Chg.of_below (fun _ => False) hb) id id)
      have KC2 := Lib.hid (KC.out.trans (Chg.of_below (fun _ => False) hb) fun _ h _ => h.elim)
      have HR := Lib.hid hr
      have HCt := Lib.hid (count_row H2.out 1 (L.length + 1) (by omega) (by omega))
      clear hr hb HS H1 KC
      go_wp2_with fail
      refine HCt.out.mono ?_
      rintro e w3 ⟨rfl, k3, hw3⟩
      have h2 := H2.out
      have hne := h2.ne
      have d3 := (setRow_other (w2.drewN k3) g p (wrs cur 4 ((leN 4 (L.length + 1)).map u8v)) (Ne.symm hne)).trans h2.head
      have r3 := (h2.row.drewN k3).setRow (cs := wrs cur 4 ((leN 4 (L.length + 1)).map u8v)) (by simp)
      rw [← hw3] at d3 r3
      have KC3 := Lib.hid (KC2.out.trans (show Chg (fun b => b = g) w2 w3 by rw [hw3]; exact (Chg.drewN _ _ _).trans (Chg.setRow (fun b => b = g) _ _ _ rfl) fun _ h _ => h) fun b h hl => .inr (KN.out b hl h))
      obtain ⟨R, hR⟩ := row_take h2.bytes
      rw [ints_split L W r, List.append_assoc] at hR
      have t3 := count_bytes (m := L.length + 1) hR
      have z3 : (wrs cur 4 ((leN 4 (L.length + 1)).map u8v)).size = cap := by rw [wrs_size]; exact h2.size
      generalize wrs cur 4 ((leN 4 (L.length + 1)).map u8v) = curA at *
      have c03 := cell_in d3 (i := 0) rfl
      have c23 := cell_in d3 (i := 2) rfl
      have hW1 := HWW.out
      have hrl := HR.out.1
      have few := HF.out
      have hle1 := h2.le
      have hcm1 := h2.capm
      obtain ⟨q, hq⟩ : ∃ q, q = r * W := ⟨_, rfl⟩
      have e1 : (r : Int) * (W : Int) = (q : Int) := by rw [hq]; push_cast; rfl
      have hqm : q + (L.length - r) * W = L.length * W := by rw [hq, ← Nat.add_mul]; congr 1; omega
      have hqb : q ≤ 800000000 := by rw [hq]; rcases hW1 with h | h | h <;> rw [h] <;> omega
      have hlb : L.length * W ≤ 800000000 := by rcases hW1 with h | h | h <;> rw [h] <;> omega
      obtain ⟨hi, hz0, hz1, hz2⟩ := HI.out
      obtain ⟨v4, w4, hrun4, happ⟩ := run_append_zeros (P := Try.prog) (w3.drewN 1) 44 3 44 5 .i64 i0 (.int .u8 0) 1 Try.underlying44 Try.underlying3 hi hz0 hz1 hz2 rfl rfl g (8 + L.length * W) cap curA r3 z3 hle1 hcm1 W (by omega) (by unfold maxLen; omega) (by omega)
      obtain ⟨g4, cap4, cur4, rfl, r4, z4, le4, cm4, t4, hg4, hc4⟩ := happ
      have d4 := hc4.keep d3 (by simp; exact Ne.symm hne)
      have KC4 := Lib.hid (KC3.out.trans ((Chg.drewN (fun b => b = g) w3 1).trans (hc4.mono (S' := fun b => b = g) fun i h _ => by simpa using h) fun _ h _ => h) fun b h hl => .inr (KN.out b hl h))
      have hw3s : g < w3.heap.size := r3.lt
      have hp3s : p < w3.heap.size := heap_lt d3
      have hg4n : g4 ≠ p := by rcases hg4 with h | h <;> simp at h <;> omega
      obtain ⟨R2, hR2⟩ := row_take t4
      rw [t3] at hR2
      have hA : (fl W (L.take r)).length = q := by rw [fl_length, List.length_take, Nat.min_eq_left hrl, hq]
      have hC : (fl W (L.drop r)).length = L.length * W - q := by rw [fl_length, List.length_drop]; omega
      have hcutA : (hd8 W (L.length + 1) ++ (fl W (L.take r) ++ fl W (L.drop r) ++ R)).take (8 + L.length * W) = hd8 W (L.length + 1) ++ (fl W (L.take r) ++ fl W (L.drop r)) := by
        rw [← List.append_assoc, List.take_left' (by simp only [List.length_append, hd8_length, hA, hC]; omega)]
      rw [hcutA] at hR2
      obtain ⟨X, Y, hXY, hX, hY⟩ := split_len (fl W (L.drop r) ++ List.replicate W (Value.int .u8 0)) W (L.length * W - q) (by rw [List.length_append, hC, List.length_replicate]; omega)
      have hcur4 : cur4.toList = (hd8 W (L.length + 1) ++ fl W (L.take r) ++ X) ++ (Y ++ R2) := by
        rw [hR2]
        simp only [List.append_assoc]
        rw [← List.append_assoc (fl W (L.drop r)), hXY]
        simp only [List.append_assoc]
      have hcur4' : cur4.toList = (hd8 W (L.length + 1) ++ fl W (L.take r)) ++ (fl W (L.drop r) ++ (List.replicate W (Value.int .u8 0) ++ R2)) := by
        rw [hR2]; simp only [List.append_assoc]
      obtain ⟨w5, hw5⟩ : ∃ w5, w5 = w4.setCell ⟨p, 0, none⟩ (.slice (some ⟨g4, 0, none⟩) (8 + L.length * W + W) cap4) := ⟨_, rfl⟩
      have e5 := setCell_eq_setRow w4 p 0 _ _ _ (.slice (some ⟨g4, 0, none⟩) (8 + L.length * W + W) cap4) d4
      rw [← hw5] at e5
      have d5 : w5.heap[p]? = some (.cells #[.slice (some ⟨g4, 0, none⟩) (8 + L.length * W + W) cap4, .func (.func (getF W)) #[] #[], .int .i64 W] 47 (0, 0)) := by rw [e5]; exact heap_setRow d4 _
      have r5 : RowAt w5 g4 5 cur4 := by rw [e5]; exact r4.other _ hg4n
      have KC5 := Lib.hid (KC4.out.trans (show Chg (fun b => b = p) w4 w5 by rw [e5]; exact Chg.setRow _ _ _ _ rfl) fun b h _ => .inl h)
      have hlen4 : cap4 = (8 + q + W) + ((L.length * W - q) + R2.length) := by
        have := congrArg List.length hcur4
        simp only [List.length_append, hd8_length, hA, hX, hY, Array.length_toList] at this
        omega
      -- the copy, and what it leaves
      obtain ⟨cur6, hcur6⟩ : ∃ cur6, cur6 = spliced cur4 (8 + q + W) (fl W (L.drop r)) := ⟨_, rfl⟩
      have t6 : cur6.toList = (hd8 W (L.length + 1) ++ fl W (L.take r)) ++ (X ++ (fl W (L.drop r) ++ R2)) := by
        rw [hcur6, row_splice hcur4 (by rw [hC, hY]) (by simp only [List.length_append, hd8_length, hA, hX])]
        simp only [List.append_assoc]
      have z6 : cur6.size = cap4 := by rw [hcur6, spliced_size _ _ _ (by rw [hC]; omega)]; omega
      have hone : ∀ u ∈ fl W (L.drop r), u.oneCell' = true := fun u hu => by
        obtain ⟨c, _, rfl⟩ := List.mem_map.1 hu
        rfl
      have hcpy : ∀ k, (Builtin.copy_ #[44, 44] 3 #[.slice (some ⟨g4, 8 + q + W, none⟩) (8 + L.length * W + W - (8 + q + W)) (cap4 - (8 + q + W)), .slice (some ⟨g4, 8 + q, none⟩) (8 + L.length * W + W - (8 + q)) (cap4 - (8 + q))]).run Try.prog (w5.drewN k) =
          .ok (.int .i64 ((L.length * W - q : Nat) : Int)) ((w5.drewN k).setRow g4 cur6) := fun k => by
        rw [hcur6]
        exact run_copy_row (w5.drewN k) _ _ _ _ i0 Try.underlying44 hi hz1 g4 (8 + q + W) _ _ cur4 r5 ⟨g4, 8 + q, none⟩ _ _ (L.length * W - q) (by omega) (by omega) _ hC
          (row_cells (r5.drewN k) hcur4' (by simp only [List.length_append, hd8_length, hA])) hone
      have hcpy0 : 8 + q + W = cap4 → ∀ k, (Builtin.copy_ #[44, 44] 3 #[.slice (some ⟨g4, 0, none⟩) (8 + L.length * W + W - (8 + q + W)) (cap4 - (8 + q + W)), .slice (some ⟨g4, 8 + q, none⟩) (8 + L.length * W + W - (8 + q)) (cap4 - (8 + q))]).run Try.prog (w5.drewN k) =
          .ok (.int .i64 ((L.length * W - q : Nat) : Int)) ((w5.drewN k).setRow g4 cur6) := fun hcap k => by
        have hC0 : fl W (L.drop r) = [] := List.eq_nil_of_length_eq_zero (by rw [hC]; omega)
        have h6 : cur6 = spliced cur4 0 [] := by
          rw [hcur6, hC0]; simp [spliced]
        rw [h6]
        exact run_copy_row (w5.drewN k) _ _ _ _ i0 Try.underlying44 hi hz1 g4 0 _ _ cur4 r5 ⟨g4, 8 + q, none⟩ _ _ (L.length * W - q) (by omega) (by omega) [] (by simp; omega) (by simp) (by simp)
      have hcpyI : ∀ k, (Builtin.copy_ #[44, 44] 3 #[.slice (if cap4 = 8 + q + W then some ⟨g4, 0, none⟩ else some ⟨g4, 8 + q + W, none⟩) (8 + L.length * W + W - (8 + q + W)) (cap4 - (8 + q + W)), .slice (some ⟨g4, 8 + q, none⟩) (8 + L.length * W + W - (8 + q)) (cap4 - (8 + q))]).run Try.prog (w5.drewN k) =
          .ok (.int .i64 ((L.length * W - q : Nat) : Int)) ((w5.drewN k).setRow g4 cur6) := fun k => by
        split
        · rename_i hcap; exact hcpy0 hcap.symm k
        · exact hcpy k
      -- the number put in
      have hpl : ∀ k, Calls Try.prog 48 #[.pointer (some ⟨p, 0, none⟩), .int .i64 r] ((w5.drewN k).setRow g4 cur6) fun e w' => e = .returned (.slice (some ⟨g4, 8 + q, none⟩) W (cap4 - (8 + q))) ∧ ∃ n, w' = ((w5.drewN k).setRow g4 cur6).drewN n := fun k => by
        have d6 := (setRow_other (w5.drewN k) g4 p cur6 (Ne.symm hg4n)).trans d5
        rw [hq]
        exact place_row d6 hW1 (by omega) (by rw [Nat.succ_mul, ← hq]; omega) cm4
      obtain ⟨cur7, hcur7⟩ : ∃ cur7, cur7 = wrs cur6 (8 + q) ((encW W x).map u8v) := ⟨_, rfl⟩
      have t7 : cur7.toList = (intsBytes (insAt L r x) W).map u8v ++ R2 := by
        rw [hcur7, row_wrs t6 (by simp [hX]) (by simp only [List.length_append, hd8_length, hA]), ins_bytes L W r x hrl]
        simp only [List.append_assoc]
      have hins := insAt_length L r x hrl
      have hn7 : 8 + L.length * W + W = 8 + (insAt L r x).length * W := by rw [hins, Nat.succ_mul]; omega
      have hfin : ∀ k n, IntsRow ((((w5.drewN k).setRow g4 cur6).drewN n).setRow g4 cur7) p g4 cap4 cur7 (insAt L r x) W := fun k n => by
        refine ⟨?_, ?_, hg4n, by rw [hcur7, wrs_size]; exact z6, by rw [← hn7]; exact le4, cm4, ?_, HWW.out, ?_, by rw [hins]; omega⟩
        · rw [setRow_other _ _ _ _ (Ne.symm hg4n)]
          rw [← hn7]
          exact (setRow_other (w5.drewN k) g4 p cur6 (Ne.symm hg4n)).trans d5
        · exact ((((r5.drewN k).setRow (by rw [z6]; omega)).drewN n).setRow (by rw [hcur7, wrs_size]))
        · rw [t7, List.take_left' (by rw [List.length_map, intsBytes_length])]
        · intro y hy
          rcases (insAt_mem L r x y).1 hy with rfl | hy
          · exact HFW.out
          · exact h2.fits y hy
      have hw5s : w3.heap.size ≤ w5.heap.size := by
        have := hc4.size
        rw [e5, setRow_size]
        exact this
      have hg4' : g4 = g ∨ w.heap.size ≤ g4 := by
        have := KC3.out.size
        have hk := KG.out
        rcases hg4 with h | h
        · simp at h; omega
        · have h : w3.heap.size ≤ g4 := h
          omega
      have hchg : ∀ k n, Chg (fun b => b = p ∨ b = g) w ((((w5.drewN k).setRow g4 cur6).drewN n).setRow g4 cur7) := fun k n => by
        have s1 : Chg (fun b => b = g4) w5 ((((w5.drewN k).setRow g4 cur6).drewN n).setRow g4 cur7) :=
          (((Chg.drewN (fun b => b = g4) w5 k).trans (Chg.setRow (fun b => b = g4) _ _ _ rfl) fun _ h _ => h).trans (Chg.drewN _ _ n) fun _ h _ => h).trans (Chg.setRow (fun b => b = g4) _ _ _ rfl) fun _ h _ => h
        refine KC5.out.trans s1 fun b h hl => ?_
        rcases hg4' with h' | h'
        · exact .inr (h.trans h')
        · omega
      have HPu := Lib.hid fun c k n => put_any g4 (8 + q) W c (x % 18446744073709551616).toNat cur6 5 (((w5.drewN k).setRow g4 cur6).drewN n) (by omega) (by omega) ((r5.drewN k).setRow (by rw [z6]; omega))
      have HR4 := Lib.hid hrun4
      have HC7 := Lib.hid hcur7
      have HW5 := Lib.hid hw5
      have HFin := Lib.hid hfin
      have HChg := Lib.hid hchg
      have HG4 := Lib.hid hg4'
      have HPl := Lib.hid hpl
      have HCp := Lib.hid hcpyI
      have c5 := cell_in d5 (i := 0) rfl
      have c52 := cell_in d5 (i := 2) rfl
      have c4 := cell_in d4 (i := 0) rfl
      have f4 := frozen_in d4 0
      have hWp : 0 < W ∧ W ≤ 8 := by omega
      have hle4 : 8 + q + W ≤ 8 + L.length * W + W := by omega
      have H3W := Lib.hid hw3
      clear hcpy hcpy0 hcpyI hpl hfin hchg hg4' hcur7 hw5 hrun4 hw3 t7 hn7 hins t6 z6 hcur6 hone hcur4 hcur4' hR2 hcutA hXY hX hY hA hC hR t3 z3 t4 z4 d5 r5 d4 r4 d3 r3 e5 hi hz0 hz1 hz2 hg4 hc4 hq hqm hW1 hw3s hp3s hw5s hlen4 h2 hne hg4n HCt
      go_wp2_with fail
      -- s.b = append(s.b, make([]byte, s.size)...)
      obtain ⟨X1, f, hX1, hf, hF⟩ := classOf (fun w => w.cell? ⟨p, 0, none⟩ = some (.slice (some ⟨g, 0, none⟩) (8 + L.length * W) cap) ∧ w.cell? ⟨p, 2, none⟩ = some (.int .i64 W)) ⟨c03, c23⟩
      have hf1 := fun x => (hf x).1
      have hf2 := fun x => (hf x).2
      have HF1 := Lib.hid (fun k => hF (w3.drewN k) ⟨c03, c23⟩)
      clear hF hf
      refine wp_region_text ⟨[9, 12], [0, 10, 11], 9⟩ (fun w' => ∃ x : X1, w' = f x) (by kernel_rfl) (by kernel_rfl) (HF1.out 1) ?_
      refine wpC_seg true (HF1.out 1) 1 0 _ _ (by rfl) (by rfl) ?_
      simp only [List.take_succ_cons, List.take_zero, List.drop_succ_cons, List.drop_zero, if_true, Nat.zero_add, Nat.reduceAdd]
      repeat (go_big_quiet_step (fail))
      refine wpQuiet_nil ?_
      refine wpC_seg false (HF1.out 1) 8 1 _ _ (by rfl) (by rfl) ?_
      simp only [List.take_succ_cons, List.take_zero, List.drop_succ_cons, List.drop_zero, Bool.false_eq_true, if_false, Nat.zero_add, Nat.reduceAdd]
      repeat (go_big_quiet_step (fail))
      refine wpQuiet_nil ?_
      refine wpC_value (by rfl) (by rfl) (exec_append rfl HR4.out) (fun h => absurd h (by decide)) ?_
      simp only [Act.put, List.setIfInBounds_toArray, List.set_cons_succ, List.set_cons_zero]
      refine wpC_segD 2 10 _ _ (by rfl) (by rfl) ?_
      simp only [List.take_succ_cons, List.take_zero, List.drop_succ_cons, List.drop_zero, if_true, Nat.zero_add, Nat.reduceAdd]
      repeat (go_big_quiet_step (fail))
      refine wpQuiet_nil ?_
      refine wpC_loud (by rfl) (by rfl) fun K hK => ?_
      go_wp2_with fail
      rw [← HW5.out]
      refine hK _ _ (fun h => absurd h (by decide)) ?_
      refine wpC_nil ?_
      clear hK hf1 hf2 hX1 HF1 f
      go_wp2_with fail
      -- copy(s.b[at+s.size:], s.b[at:])
      obtain ⟨X1, f, hX1, hf, hF⟩ := classOf (fun w => w.cell? ⟨p, 0, none⟩ = some (.slice (some ⟨g4, 0, none⟩) (8 + L.length * W + W) cap4) ∧ w.cell? ⟨p, 2, none⟩ = some (.int .i64 W)) ⟨c5, c52⟩
      have hf1 := fun x => (hf x).1
      have hf2 := fun x => (hf x).2
      have HF1 := Lib.hid (fun k => hF (w5.drewN k) ⟨c5, c52⟩)
      clear hF hf
      have hcm4 := cm4
      unfold maxLen at hcm4
      clear c03 c23 c4 f4 c5 c52
      refine wp_region_text ⟨[17], [], 17⟩ (fun w' => ∃ x : X1, w' = f x) (by kernel_rfl) (by kernel_rfl) (HF1.out 1) ?_
      refine wpC_seg false (HF1.out 1) 17 0 _ _ (by rfl) (by rfl) ?_
      simp only [List.take_succ_cons, List.take_zero, List.drop_succ_cons, List.drop_zero, Bool.false_eq_true, if_false, Nat.zero_add, Nat.reduceAdd]
      repeat (go_big_quiet_step (fail))
      refine wpQuiet_nil ?_
      refine wpC_value (by rfl) (by rfl) (exec_copy rfl (HCp.out 1)) (fun h => absurd h (by decide)) ?_
      refine wpC_nil ?_
      clear hf1 hf2 hX1 HF1 f
      generalize (if cap4 = 8 + q + W then some (⟨g4, 0, none⟩ : Addr) else some ⟨g4, 8 + q + W, none⟩) = adr
      go_wp2_with fail
      refine (HPl.out 1).mono ?_
      rintro e w6 ⟨rfl, n6, rfl⟩
      go_wp2_with fail
      rw [u64_wrap]
      refine (HPu.out _ 1 n6).mono ?_
      rintro e w7 ⟨rfl, rfl⟩
      go_wp2_with fail
      go_ret
      have e7 : wrs cur6 (8 + q) ((leN W (x % 18446744073709551616).toNat).map u8v) = cur7 := HC7.out.symm
      rw [e7]
      refine ⟨ret1 (by simp [HNI.out]), insAt L r x, g4, cap4, cur7, ?_, fun h => absurd h HNI.out, fun _ => ⟨r, HR.out, rfl⟩, HG4.out, HChg.out 1 n6⟩
      rw [HWX.out, HM.out]
      exact HFin.out 1 n6
end Go.Proofs.Ytncdckakcmoejaa
