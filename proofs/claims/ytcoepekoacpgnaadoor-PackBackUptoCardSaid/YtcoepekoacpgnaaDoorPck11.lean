/- pack: place, Get. -/
import Derived.Test.YtcoepekoacpgnaaDoorPck10
namespace Go.Proofs.YtcoepekoacpgnaaDoor
set_option linter.unusedVariables false
set_option linter.unusedSimpArgs false
open Go.RowKit
def placeN (n : Nat) (at_ : Int) : Int := if at_ < 0 then at_ + n else at_
def placeB (n : Nat) (at_ : Int) : Bool := decide (0 ≤ placeN n at_) && decide (placeN n at_ < n)
set_option maxHeartbeats 800000 in
set_option maxRecDepth 100000 in
theorem place_row {w : World} {p g cap : Nat} {cur : Array Value} {L : List ByteArray} (h : PackRow w p g cap cur L) (a : Int) (ha : -9223372036854775808 ≤ a ∧ a ≤ 9223372036854775807) :
    Calls Tryd.prog 46 #[.pointer (some ⟨p, 0, none⟩), .int .i64 a] w fun e w' => e = .returned (.tuple #[.int .i64 (placeN L.length a), .bool (placeB L.length a)]) ∧ w = w' := by
  have HL := Lib.hid (plen_row h)
  have hmany := h.ok.many
  clear h
  obtain ⟨n, hn⟩ : ∃ n, L.length = n := ⟨_, rfl⟩
  rw [hn] at HL hmany ⊢
  clear hn
  by_cases h0 : a < 0
  · have hd : decide (a < 0) = true := by simp; omega
    have hp : placeN n a = a + n := by unfold placeN; rw [if_pos h0]
    have hb : placeB n a = (decide (0 ≤ a + n) && decide (a + n < n)) := by unfold placeB; rw [hp]
    rw [hp, hb]
    have hin : -9223372036854775808 ≤ a + n ∧ a + n ≤ 9223372036854775807 := by omega
    rcases Bool.eq_false_or_eq_true (decide (0 ≤ a + n)) with h1 | h1
    · rcases Bool.eq_false_or_eq_true (decide (a + (n : Int) < n)) with h2 | h2
      all_goals
        clear hp hb
        go_enter Tryd.func46, Tryd.ntmps46
        go_wp2_with fail
        refine HL.out.mono ?_
        rintro e w' ⟨rfl, rfl⟩
        go_wp2_with fail
        refine HL.out.mono ?_
        rintro e w' ⟨rfl, rfl⟩
        go_wp2_with fail
        go_ret2
        exact ⟨by simp [h1, h2], rfl⟩
    · clear hp hb
      go_enter Tryd.func46, Tryd.ntmps46
      go_wp2_with fail
      refine HL.out.mono ?_
      rintro e w' ⟨rfl, rfl⟩
      go_wp2_with fail
      go_ret2
      exact ⟨by simp [h1], rfl⟩
  · have hd : decide (a < 0) = false := by simp; omega
    have hd2 : decide (0 ≤ a) = true := by simp; omega
    have hp : placeN n a = a := by unfold placeN; rw [if_neg h0]
    have hb : placeB n a = (decide (0 ≤ a) && decide (a < n)) := by unfold placeB; rw [hp]
    rw [hp, hb]
    clear hp hb
    rcases Bool.eq_false_or_eq_true (decide (a < (n : Int))) with h2 | h2
    all_goals
      go_enter Tryd.func46, Tryd.ntmps46
      go_wp2_with fail
      refine HL.out.mono ?_
      rintro e w' ⟨rfl, rfl⟩
      go_wp2_with fail
      go_ret2
      exact ⟨by simp [hd2, h2], rfl⟩
theorem placeB_lt {n : Nat} {a : Int} (h : placeB n a = true) : ∃ i, i < n ∧ placeN n a = (i : Int) := by
  unfold placeB at h
  simp only [Bool.and_eq_true, decide_eq_true_eq] at h
  exact ⟨(placeN n a).toNat, by omega, by omega⟩
def getV (L : List ByteArray) (a : Int) : Value := .tuple #[.string (if placeB L.length a then L.getD (placeN L.length a).toNat ByteArray.empty else ByteArray.empty), .bool (placeB L.length a)]
set_option maxHeartbeats 800000 in
set_option maxRecDepth 100000 in
theorem get_row {w : World} {p g cap : Nat} {cur : Array Value} {L : List ByteArray} (h : PackRow w p g cap cur L) (hl : Laid w) (a : Int) (ha : -9223372036854775808 ≤ a ∧ a ≤ 9223372036854775807) :
    Calls Tryd.prog 21 #[.pointer (some ⟨p, 0, none⟩), .int .i64 a] w fun e w' => e = .returned (getV L a) ∧ Below w.heap.size w w' := by
  have c0 := h.cell0
  have HP := Lib.hid (place_row h a ha)
  cases hb : placeB L.length a with
  | false =>
    have hv : getV L a = .tuple #[.string ByteArray.empty, .bool false] := by unfold getV; rw [hb]; simp
    rw [hb] at HP
    rw [hv]
    clear h hb hv
    go_enter Tryd.func21, Tryd.ntmps21
    go_wp2_with fail
    refine HP.out.mono ?_
    rintro e w1 ⟨rfl, rfl⟩
    go_wp2_with fail
    go_ret2
    exact ⟨rfl, Below.refl _ _⟩
  | true =>
    obtain ⟨i, hi, hpi⟩ := placeB_lt hb
    have hv : getV L a = .tuple #[.string L[i], .bool true] := by
      unfold getV; rw [hb, hpi]; simp [List.getD, hi]
    rw [hb, hpi] at HP
    rw [hv]
    have hchg : ∀ w', Below w.heap.size w w' → PackRow w' p g cap cur L := fun w' hb => h.chg (Chg.of_below (fun _ => False) hb) id id
    have HSk := Lib.hid (fun m => seek_row (hchg _ (belowN (Below.refl _ _) m)) (hl.below (belowN (Below.refl _ _) m)) (i := i) (by omega))
    have HRd := Lib.hid (fun w' hb => read_row (hchg w' hb) (hl.below hb) hi)
    have hk := (offL_lt L i).2
    have hle := h.le
    have hsz := h.ok.size
    have hcm := h.capm
    unfold maxLen at hcm
    obtain ⟨x, hx⟩ : ∃ x, L[i] = x := ⟨_, rfl⟩
    obtain ⟨nh, hnh⟩ : ∃ nh, (headL x).length = nh := ⟨_, rfl⟩
    rw [hx, hnh] at HRd
    rw [hx]
    generalize offL L i = k at *
    generalize sizeP L = sz at *
    have hkc : ¬ cap = k := by omega
    have hkle : k ≤ sz := by omega
    obtain ⟨X1, f, hX1, hf, hF⟩ := classOf (fun x => x.cell? ⟨p, 0, none⟩ = some (.slice (some ⟨g, 0, none⟩) sz cap)) c0
    have HF := Lib.hid hF
    have HF1 := Lib.hid (hF w.drew c0)
    have HC0 := Lib.hid c0
    have HPl := Lib.hid (heap_lt h.head)
    clear h hchg hl hF hb hpi hv hx hnh
    go_enter Tryd.func21, Tryd.ntmps21
    go_wp2_with fail
    refine HP.out.mono ?_
    rintro e w1 ⟨rfl, rfl⟩
    go_wp2_with fail
    clear c0
    refine wp_region_text ⟨[6, 8], [9, 10, 11, 12, 13, 14, 15], 8⟩ (fun w' => ∃ x : X1, w' = f x) (by kernel_rfl) (by kernel_rfl) HF1.out ?_
    refine wpC_seg false (HF1.out) 6 0 _ _ (by rfl) (by rfl) ?_
    simp only [List.take_succ_cons, List.take_zero, List.drop_succ_cons, List.drop_zero, Bool.false_eq_true, if_false, Nat.zero_add, Nat.reduceAdd]
    repeat (go_big_quiet_step (fail))
    refine wpQuiet_nil ?_
    refine wpC_loud (by rfl) (by rfl) fun K hK => ?_
    go_wp2_with fail
    refine (HSk.out 1).mono ?_
    rintro e w2 ⟨rfl, b2⟩
    have HB2 := Lib.hid ((belowN (Below.refl w.heap.size w) 1).trans b2)
    have HF2 := Lib.hid (HF.out w2 (by rw [HB2.out.cell HPl.out]; exact HC0.out))
    refine hK _ _ (fun _ => HF2.out) ?_
    clear hK b2
    refine wpC_seg false (HF2.out) 1 7 _ _ (by rfl) (by rfl) ?_
    simp only [List.take_succ_cons, List.take_zero, List.drop_succ_cons, List.drop_zero, Bool.false_eq_true, if_false, Nat.zero_add, Nat.reduceAdd]
    repeat (go_big_quiet_step (fail))
    refine wpQuiet_nil ?_
    refine wpC_loud (by rfl) (by rfl) fun K hK => ?_
    go_wp2_with fail
    refine (HRd.out _ HB2.out).mono ?_
    rintro e w3 ⟨rfl, b3⟩
    have HB3 := Lib.hid (HB2.out.trans (b3.mono HB2.out.size))
    refine hK _ _ (fun h => absurd h (by decide)) ?_
    clear hK b3
    refine wpC_segD 7 9 _ _ (by rfl) (by rfl) ?_
    simp only [List.take_succ_cons, List.take_zero, List.drop_succ_cons, List.drop_zero, if_true, Nat.zero_add, Nat.reduceAdd]
    repeat (go_big_quiet_step (fail))
    refine wpQuiet_nil ?_
    refine wpC_nil ?_
    clear hf hX1 HF HF1 HF2 f
    go_wp2_with fail
    go_ret2
    exact ⟨rfl, HB3.out⟩
end Go.Proofs.YtcoepekoacpgnaaDoor
