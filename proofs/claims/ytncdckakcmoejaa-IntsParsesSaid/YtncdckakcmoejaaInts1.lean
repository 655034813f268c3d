/- The walks of the layer ints: what each function does to the cells of a set of whole numbers. -/
import Derived.Test.YtncdckakcmoejaaRows
import Derived.Test.YtncdckakcmoejaaBase
import Derived.Test.YtncdckakcmoejaaOct
import Derived.Test.YtncdckakcmoejaaReg
import Derived.Test.YtncdckakcmoejaaInts0
import Derived.Test.YtncdckakcmoejaaSearch
import Derived.WalkKit
import Derived.WalkSpells
import Derived.WalkLawsBesides
import Derived.Lib.Hide
import Derived.Deep.QuietTactic
import Derived.BigQuiet
namespace Go.Proofs.Ytncdckakcmoejaa
set_option linter.unusedVariables false
set_option linter.unusedSimpArgs false
open Go.RowKit

@[go_sem] theorem eql_bytes_nil (w : World) (a : Option Addr) (n c : Nat) : (binOp .eql 44 (.slice a n c) (.slice none 0 0)).run Try.prog w = .ok (.bool a.isNone) w :=
  Lib.run_eql_slice_nil w _ _ a n c 0 0 Try.underlying44
def getF (W : Nat) : FuncId := if W = 2 then 66 else if W = 4 then 67 else 68
/-- The cells of a set of whole numbers: the struct in block p, the piece in block g. -/
structure IntsRow (w : World) (p g cap : Nat) (cur : Array Value) (L : List Int) (W : Nat) : Prop where
  head : w.heap[p]? = some (.cells #[.slice (some ⟨g, 0, none⟩) (8 + L.length * W) cap, .func (.func (getF W)) #[] #[], .int .i64 W] 47 (0, 0))
  row : RowAt w g 5 cur
  ne : g ≠ p
  size : cur.size = cap
  le : 8 + L.length * W ≤ cap
  capm : cap ≤ maxLen
  bytes : cur.toList.take (8 + L.length * W) = (intsBytes L W).map u8v
  width : W = 2 ∨ W = 4 ∨ W = 8
  fits : ∀ x ∈ L, fitsW W x
  few : L.length ≤ 100000000

section
variable {w : World} {p g cap : Nat} {cur : Array Value} {L : List Int} {W : Nat}
theorem IntsRow.cell0 (h : IntsRow w p g cap cur L W) : w.cell? ⟨p, 0, none⟩ = some (.slice (some ⟨g, 0, none⟩) (8 + L.length * W) cap) := cell_in h.head rfl
theorem IntsRow.cell1 (h : IntsRow w p g cap cur L W) : w.cell? ⟨p, 1, none⟩ = some (.func (.func (getF W)) #[] #[]) := cell_in h.head rfl
theorem IntsRow.cell2 (h : IntsRow w p g cap cur L W) : w.cell? ⟨p, 2, none⟩ = some (.int .i64 W) := cell_in h.head rfl
end

set_option maxHeartbeats 400000 in
set_option maxRecDepth 100000 in
theorem len_row {w : World} {p g cap : Nat} {cur : Array Value} {L : List Int} {W : Nat} (h : IntsRow w p g cap cur L W) :
    Calls Try.prog 19 #[.pointer (some ⟨p, 0, none⟩)] w fun e w' => e = .returned (.int .i64 L.length) ∧ w = w' := by
  have c0 := h.cell0
  have hcap : 8 ≤ cap := by have := h.le; omega
  have hlow := low_any g 4 4 (cap - 4) (leN 4 L.length) w (by simp) (by omega) (cells_of_take h.row (intsBytes_length L W) h.bytes (by simpa using intsBytes_count L W))
  rw [lowN_leN, Nat.mod_eq_of_lt (by have := h.few; omega)] at hlow
  have hm := h.capm
  unfold maxLen at hm
  have few := h.few
  have HL := Lib.hid hlow
  clear hlow h hm
  go_enter Try.func19, Try.ntmps19
  go_wp2_with fail
  refine HL.out.mono ?_
  rintro e w' ⟨rfl, rfl⟩
  go_wp2_with fail
  go_ret
  exact ⟨rfl, rfl⟩

set_option maxHeartbeats 400000 in
theorem width_row {w : World} {p g cap : Nat} {cur : Array Value} {L : List Int} {W : Nat} (h : IntsRow w p g cap cur L W) :
    Calls Try.prog 20 #[.pointer (some ⟨p, 0, none⟩)] w fun e w' => e = .returned (.int .i64 W) ∧ w = w' := by
  have c2 := h.cell2
  clear h
  go_enter Try.func20, Try.ntmps20
  go_wp2_with fail
  go_ret
  exact ⟨rfl, rfl⟩

set_option maxHeartbeats 400000 in
/-- The bytes of a number: of the struct's cells alone. -/
theorem place_row {w : World} {p g cap W n i : Nat} {v : Value} (h : w.heap[p]? = some (.cells #[.slice (some ⟨g, 0, none⟩) n cap, v, .int .i64 W] 47 (0, 0)))
    (hw : W = 2 ∨ W = 4 ∨ W = 8) (hi : i ≤ 100000000) (hc : 8 + (i + 1) * W ≤ cap) (hm : cap ≤ maxLen) :
    Calls Try.prog 48 #[.pointer (some ⟨p, 0, none⟩), .int .i64 i] w fun e w' => e = .returned (.slice (some ⟨g, 8 + i * W, none⟩) W (cap - (8 + i * W))) ∧ ∃ n, w' = w.drewN n := by
  have c0 := cell_in h (i := 0) rfl
  have c2 := cell_in h (i := 2) rfl
  unfold maxLen at hm
  clear h
  obtain ⟨q, hq⟩ : ∃ q : Nat, q = i * W := ⟨_, rfl⟩
  have hq1 : (i + 1) * W = q + W := by rw [hq, Nat.succ_mul]
  have e1 : (i : Int) * (W : Int) = (q : Int) := by rw [hq]; push_cast; rfl
  have e2 : ((i : Int) + 1) * (W : Int) = (q : Int) + (W : Int) := by rw [Int.add_mul, e1]; omega
  have hqb : q ≤ 800000000 := by rw [hq]; rcases hw with rfl | rfl | rfl <;> omega
  have hWb : W ≤ 8 := by omega
  have hW0 : 0 < W := by omega
  rw [hq1] at hc
  rw [← hq]
  clear hq hq1 hw
  go_enter Try.func48, Try.ntmps48
  go_wp2_with fail
  go_quiet (fail)
  go_wp2_with fail
  go_ret
  exact ⟨ret1 (by simp; omega), _, rfl⟩

theorem getF_cases (W : Nat) : (W = 2 → getF W = 66) ∧ (W = 4 → getF W = 67) ∧ (W = 8 → getF W = 68) := by
  unfold getF; refine ⟨fun h => by rw [if_pos h], fun h => by rw [if_neg (by omega), if_pos h], fun h => by rw [if_neg (by omega), if_neg (by omega)]⟩
set_option maxHeartbeats 400000 in
theorem wide1_any (b o cap : Nat) (xs : List UInt8) (w : World) (hlen : xs.length = 2)
    (hc : ∀ i (h : i < xs.length), w.cell? ⟨b, o + i, none⟩ = some (.int .u8 xs[i].toNat)) :
    Calls Try.prog 66 #[.slice (some ⟨b, o, none⟩) 2 cap] w fun e w' => e = .returned (.int .i64 (decW 2 (lowN xs))) ∧ w = w' := by
  have HL := Lib.hid (low_any b o 2 cap xs w hlen (by omega) hc)
  clear hc hlen
  go_enter Try.func66, Try.ntmps66
  go_wp2_with fail
  refine HL.out.mono ?_
  rintro e w' ⟨rfl, rfl⟩
  go_wp2_with fail
  go_ret
  refine ⟨ret1 ?_, rfl⟩
  simp [decW, wrap64_i16]

set_option maxHeartbeats 400000 in
theorem wide2_any (b o cap : Nat) (xs : List UInt8) (w : World) (hlen : xs.length = 4)
    (hc : ∀ i (h : i < xs.length), w.cell? ⟨b, o + i, none⟩ = some (.int .u8 xs[i].toNat)) :
    Calls Try.prog 67 #[.slice (some ⟨b, o, none⟩) 4 cap] w fun e w' => e = .returned (.int .i64 (decW 4 (lowN xs))) ∧ w = w' := by
  have HL := Lib.hid (low_any b o 4 cap xs w hlen (by omega) hc)
  clear hc hlen
  go_enter Try.func67, Try.ntmps67
  go_wp2_with fail
  refine HL.out.mono ?_
  rintro e w' ⟨rfl, rfl⟩
  go_wp2_with fail
  go_ret
  refine ⟨ret1 ?_, rfl⟩
  simp [decW, wrap64_i32]

set_option maxHeartbeats 400000 in
theorem wide3_any (b o cap : Nat) (xs : List UInt8) (w : World) (hlen : xs.length = 8)
    (hc : ∀ i (h : i < xs.length), w.cell? ⟨b, o + i, none⟩ = some (.int .u8 xs[i].toNat)) :
    Calls Try.prog 68 #[.slice (some ⟨b, o, none⟩) 8 cap] w fun e w' => e = .returned (.int .i64 (decW 8 (lowN xs))) ∧ w = w' := by
  have HL := Lib.hid (low_any b o 8 cap xs w hlen (by omega) hc)
  clear hc hlen
  go_enter Try.func68, Try.ntmps68
  go_wp2_with fail
  refine HL.out.mono ?_
  rintro e w' ⟨rfl, rfl⟩
  go_wp2_with fail
  go_ret
  refine ⟨ret1 ?_, rfl⟩
  simp [decW, wrap64_is]


set_option maxHeartbeats 400000 in
theorem at_row {w : World} {p g cap i : Nat} {cur : Array Value} {L : List Int} {W : Nat} (h : IntsRow w p g cap cur L W) (hi : i < L.length) :
    Calls Try.prog 42 #[.pointer (some ⟨p, 0, none⟩), .int .i64 i] w fun e w' => e = .returned (.int .i64 (L.getD i 0)) ∧ ∃ n, w' = w.drewN n := by
  have c1 := h.cell1
  have hw := h.width
  have few := h.few
  have hle := h.le
  have hWi : 8 + (i + 1) * W ≤ cap := by
    have : (i + 1) * W ≤ L.length * W := Nat.mul_le_mul_right _ (by omega)
    omega
  have hplace := fun n => (place_row (w := w.drewN n) (i := i) (W := W) (p := p) (g := g) (cap := cap) (n := 8 + L.length * W) (v := .func (.func (getF W)) #[] #[]) h.head hw (by omega) hWi h.capm)
  have hcells : ∀ n j (hj : j < (encW W L[i]).length), (w.drewN n).cell? ⟨g, 8 + i * W + j, none⟩ = some (.int .u8 (encW W L[i])[j].toNat) := fun n => cells_of_take (w := w.drewN n) h.row (intsBytes_length L W) h.bytes (o := 8 + i * W) (xs := encW W L[i]) (by simpa using intsBytes_at L W i hi)
  have hdec : decW W (lowN (encW W L[i])) = L[i] := dec_enc W _ (h.fits _ (List.getElem_mem hi))
  have hget : L.getD i 0 = L[i] := by simp [List.getD, hi]
  have hF : ∀ n, Calls Try.prog (getF W) #[.slice (some ⟨g, 8 + i * W, none⟩) W (cap - (8 + i * W))] (w.drewN n) fun e w' => e = .returned (.int .i64 (L.getD i 0)) ∧ w.drewN n = w' := fun n => by
    have g0 := getF_cases W
    rcases hw with rfl | rfl | rfl
    · rw [g0.1 rfl]
      exact (wide1_any g _ _ _ _ (by simp) (hcells n)).mono fun e w' ⟨he, hw'⟩ => ⟨by rw [he, hdec, hget], hw'⟩
    · rw [g0.2.1 rfl]
      exact (wide2_any g _ _ _ _ (by simp) (hcells n)).mono fun e w' ⟨he, hw'⟩ => ⟨by rw [he, hdec, hget], hw'⟩
    · rw [g0.2.2 rfl]
      exact (wide3_any g _ _ _ _ (by simp) (hcells n)).mono fun e w' ⟨he, hw'⟩ => ⟨by rw [he, hdec, hget], hw'⟩
  have hcf : ∀ (w : World) (args : Array Value), (callFunc (getF W) args).run Try.prog w = .ok (.enter (getF W) args) w := fun w args => by
    have g0 := getF_cases W
    rcases hw with h | h | h
    · rw [g0.1 h]; rfl
    · rw [g0.2.1 h]; rfl
    · rw [g0.2.2 h]; rfl
  have HP := Lib.hid hplace
  have HF := Lib.hid hF
  clear hplace hF hcells hdec hget h hw few hle hWi
  generalize hgf : getF W = f at *
  clear hgf
  generalize hx : L.getD i 0 = x at *
  clear hx
  go_enter Try.func42, Try.ntmps42
  go_wp2_with fail
  go_quiet ((first | exact Calls.quiet_of (HP.out _) | exact Calls.quiet_of_same ((HF.out _).mono fun _ _ ⟨he, hw⟩ => ⟨he, hw.symm⟩)))
  go_wp2_with fail
  go_ret
  exact ⟨rfl, _, rfl⟩

theorem IntsRow.chg {S : Nat → Prop} {w w' : World} {p g cap : Nat} {cur : Array Value} {L : List Int} {W : Nat} (h : IntsRow w p g cap cur L W) (hc : Chg S w w') (h1 : ¬ S p) (h2 : ¬ S g) : IntsRow w' p g cap cur L W :=
  { h with head := hc.keep h.head h1, row := h.row.keep hc h2 }

set_option maxHeartbeats 400000 in
theorem seek1_row {w : World} {p g cap i bs bn : Nat} {x : Int} {cur : Array Value} {L : List Int} {W : Nat} (h : IntsRow w p g cap cur L W) (hi : i < L.length)
    (hs : w.cell? ⟨bs, 0, none⟩ = some (.pointer (some ⟨p, 0, none⟩))) (hn : w.cell? ⟨bn, 0, none⟩ = some (.int .i64 x)) :
    Calls Try.prog 70 #[.int .i64 i, .pointer (some ⟨bs, 0, none⟩), .pointer (some ⟨bn, 0, none⟩)] w fun e w' => e = .returned (.bool (decide (x ≤ L.getD i 0))) ∧ ∃ n, w' = w.drewN n := by
  have HA := Lib.hid fun n => at_row (h.chg (Chg.drewN (fun _ => False) w n) id id) hi
  clear h hi
  generalize hy : L.getD i 0 = y at *
  clear hy
  go_enter Try.func70, Try.ntmps70
  go_wp2_with fail
  go_quiet ((exact Calls.quiet_of (HA.out _)))
  go_wp2_with fail
  go_ret
  exact ⟨rfl, _, rfl⟩

/-- Where a number stands in a rising row, or would. -/
def PlaceOf (L : List Int) (x : Int) (r : Nat) : Prop := r ≤ L.length ∧ (∀ k, k < r → L.getD k 0 < x) ∧ (∀ k, r ≤ k → k < L.length → x ≤ L.getD k 0)
def Sought (L : List Int) (x : Int) (w : World) (e : Ending) (w' : World) : Prop :=
  ∃ r, PlaceOf L x r ∧ e = .returned (.tuple #[.int .i64 (r : Nat), .bool (decide (x ∈ L))]) ∧ Below w.heap.size w w'
theorem place_mem {L : List Int} {x : Int} {r : Nat} (h : PlaceOf L x r) (hL : L.Pairwise (· < ·)) : x ∈ L ↔ r < L.length ∧ L.getD r 0 = x := by
  constructor
  · intro hx
    obtain ⟨i, hi, rfl⟩ := List.getElem_of_mem hx
    have h1 : ¬ i < r := fun hlt => by
      have := h.2.1 i hlt
      simp [List.getD, hi] at this
    have h2 : ¬ r < i := fun hlt => by
      have h3 := h.2.2 r (Nat.le_refl _) (by omega)
      have h4 := List.pairwise_iff_getElem.1 hL r i (by omega) hi hlt
      simp [List.getD, show r < L.length by omega] at h3
      omega
    obtain rfl : r = i := by omega
    exact ⟨hi, by simp [List.getD, hi]⟩
  · rintro ⟨h1, rfl⟩
    simp [List.getD, h1]
set_option maxHeartbeats 800000 in
theorem seek_row {w : World} {p g cap : Nat} {x : Int} {cur : Array Value} {L : List Int} {W : Nat} (h : IntsRow w p g cap cur L W) (hL : L.Pairwise (· < ·)) :
    Calls Try.prog 45 #[.pointer (some ⟨p, 0, none⟩), .int .i64 x] w (Sought L x w) := by
  obtain ⟨w1, hw1⟩ : ∃ w1, w1 = (w.alloc (.cells #[.pointer (some ⟨p, 0, none⟩)] 31)).alloc (.cells #[.int .i64 x] 2) := ⟨_, rfl⟩
  have hb : Below w.heap.size w w1 := by rw [hw1]; exact ((Below.refl _ _).alloc (Nat.le_refl _) _).alloc (by simp) _
  have h1 : IntsRow w1 p g cap cur L W := h.chg (Chg.of_below (fun _ => False) hb) id id
  have q1 : ∀ m, (w1.drewN m).cell? ⟨w.heap.size, 0, none⟩ = some (.pointer (some ⟨p, 0, none⟩)) := fun m => by rw [hw1]; go_simp
  have q2 : ∀ m, (w1.drewN m).cell? ⟨w.heap.size + 1, 0, none⟩ = some (.int .i64 x) := fun m => by rw [hw1]; go_simp
  have few := h.few
  have hrow := fun m => h1.chg (Chg.drewN (fun _ => False) w1 m) id id
  have mono : ∀ i j, i ≤ j → j < L.length → decide (x ≤ L.getD i 0) = true → decide (x ≤ L.getD j 0) = true := fun i j hij hj hx => by
    simp only [decide_eq_true_eq] at hx ⊢
    rcases Nat.lt_or_ge i j with hlt | hge
    · have := List.pairwise_iff_getElem.1 hL i j (by omega) hj hlt
      simp [List.getD, hj, show i < L.length by omega] at hx ⊢
      omega
    · obtain rfl : i = j := by omega
      exact hx
  have HS := Lib.hid (search_any L.length 70 #[.pointer (some ⟨w.heap.size, 0, none⟩), .pointer (some ⟨w.heap.size + 1, 0, none⟩)] (fun i => decide (x ≤ L.getD i 0)) w1 (by omega) (fun w args => rfl)
    (fun i hi m => seek1_row (hrow m) hi (q1 m) (q2 m)) mono)
  have HRow := Lib.hid hrow
  have HB := Lib.hid hb
  have e0 := q1 0
  have e1 := q2 0
  rw [World.drewN_zero] at e0 e1
  have HQ := Lib.hid q1
  have HQ2 := Lib.hid q2
  have HW := Lib.hid hw1
  clear q1 q2 hrow h h1 hb mono hw1
  have l0 := len_row (HRow.out 0)
  rw [World.drewN_zero] at l0
  have L0 := Lib.hid l0
  clear l0
  have HL := Lib.hid hL
  clear hL
  go_enter Try.func45, Try.ntmps45
  go_wp2_with fail
  rw [← HW.out]
  refine L0.out.mono ?_
  rintro e w' ⟨rfl, rfl⟩
  go_wp2_with fail
  refine HS.out.mono ?_
  rintro e w' ⟨r, hr, rfl, p1, p2, m, rfl⟩
  have hp : PlaceOf L x r := ⟨hr, fun k hk => by have := p1 k hk; simp at this; exact this, fun k h1 h2 => by have := p2 k h1 h2; simpa using this⟩
  have HM := Lib.hid (place_mem hp HL.out)
  have HP := Lib.hid hp
  clear p1 p2 hp
  have e2 := HQ.out m
  have e3 := HQ2.out m
  have h2 := HRow.out m
  obtain ⟨w2, hw2⟩ : ∃ w2, w2 = w1.drewN m := ⟨_, rfl⟩
  have hb2 : Below w.heap.size w w2 := by rw [hw2]; exact belowN HB.out m
  rw [← hw2] at e2 e3 h2 ⊢
  clear hw2 HB HW HRow L0 HS HQ HQ2 e0 e1
  have HB := Lib.hid hb2
  have HLen := Lib.hid fun k => len_row (h2.chg (Chg.drewN (fun _ => False) w2 k) id id)
  have HAt := Lib.hid fun k (r : Nat) (hr : r < L.length) => at_row (h2.chg (Chg.drewN (fun _ => False) w2 k) id id) hr
  clear hb2 h2
  go_wp2_with fail
  by_cases hlt : r < L.length
  · have HA := Lib.hid fun k => HAt.out k r hlt
    clear HAt
    generalize hy : L.getD r 0 = y at *
    clear hy
    by_cases hxy : y = x
    · have HIn := Lib.hid (show decide (x ∈ L) = true by simpa using HM.out.2 ⟨hlt, hxy⟩)
      have hB2 : ((y : Int) == x) = true := by simpa using hxy
      clear hxy
      go_quiet ((first | exact Calls.quiet_of_same ((HLen.out _).mono fun _ _ ⟨he, hw⟩ => ⟨he, hw.symm⟩) | exact Calls.quiet_of (HA.out _)))
      go_wp2_with fail
      go_ret2
      exact ⟨r, HP.out, by rw [HIn.out]; rfl, belowN HB.out _⟩
    · have HIn := Lib.hid (show decide (x ∈ L) = false by simpa using fun hx => hxy (HM.out.1 hx).2)
      have hB2 : ((y : Int) == x) = false := by simpa using hxy
      clear hxy
      go_quiet ((first | exact Calls.quiet_of_same ((HLen.out _).mono fun _ _ ⟨he, hw⟩ => ⟨he, hw.symm⟩) | exact Calls.quiet_of (HA.out _)))
      go_wp2_with fail
      go_ret2
      exact ⟨r, HP.out, by rw [HIn.out]; rfl, belowN HB.out _⟩
  · have HIn := Lib.hid (show decide (x ∈ L) = false by simpa using fun hx => hlt (HM.out.1 hx).1)
    have hB1 : decide ((r : Int) < (L.length : Int)) = false := by simpa using hlt
    have hB3 : decide (r < L.length) = false := by simpa using hlt
    clear hlt HAt
    go_quiet ((first | exact Calls.quiet_of_same ((HLen.out _).mono fun _ _ ⟨he, hw⟩ => ⟨he, hw.symm⟩)))
    go_wp2_with fail
    go_ret2
    exact ⟨r, HP.out, by rw [HIn.out]; rfl, belowN HB.out _⟩
end Go.Proofs.Ytncdckakcmoejaa
