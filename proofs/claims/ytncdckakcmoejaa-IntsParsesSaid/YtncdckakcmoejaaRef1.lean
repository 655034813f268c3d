/- The document's answer for the layer ints (stillroomref06): what each function does. -/
import Derived.Test.YtncdckakcmoejaaInts15
namespace Go.Proofs.Ytncdckakcmoejaa
set_option linter.unusedVariables false
set_option linter.unusedSimpArgs false
open Go.RowKit
def vblock : Value → Option Nat
  | .slice (some a) _ _ => some a.block
  | _ => none
theorem SliceIs.chg {w : World} {B : Nat} {e : TypeId} {v : Value} {n : Nat} {xs : List Value} (h : SliceIs w B e v n xs) {S : Nat → Prop} {w' : World} (hc : Chg S w w') (hn : ∀ k, vblock v = some k → ¬ S k) : SliceIs w' B e v n xs := by
  refine ⟨h.1, h.2.imp id ?_⟩
  rintro ⟨g, cap, cur, rfl, h2, h3, h4⟩
  exact ⟨g, cap, cur, rfl, h2, h3.keep hc (hn g rfl), h4⟩
theorem SliceIs.block_lt {w : World} {B : Nat} {e : TypeId} {v : Value} {n : Nat} {xs : List Value} (h : SliceIs w B e v n xs) {k : Nat} (hk : vblock v = some k) : B ≤ k ∧ k < w.heap.size := by
  rcases h.2 with ⟨rfl, rfl⟩ | ⟨g, cap, cur, rfl, h2, h3, h4⟩
  · cases hk
  · cases hk; exact ⟨h2, h3.lt⟩
/-- The document's numbers, in the blocks G. -/
def RefF (w : World) (r : Nat) (G : Nat → Prop) (L : List Int) (W : Nat) : Prop :=
  ∃ v, w.heap[r]? = some (.cells #[v, .int .i64 W] 81 (0, 0)) ∧ SliceIs w (r + 1) 2 v L.length (L.map i64v) ∧ ∀ k, G k ↔ k = r ∨ vblock v = some k
theorem RefF.lt {w : World} {r : Nat} {G : Nat → Prop} {L : List Int} {W : Nat} (h : RefF w r G L W) {k : Nat} (hk : G k) : k < w.heap.size := by
  obtain ⟨v, h1, h2, h3⟩ := h
  rcases (h3 k).1 hk with rfl | h4
  · exact heap_lt h1
  · exact (h2.block_lt h4).2
theorem RefF.chg {w : World} {r : Nat} {G : Nat → Prop} {L : List Int} {W : Nat} (h : RefF w r G L W) {S : Nat → Prop} {w' : World} (hc : Chg S w w') (hd : ∀ k, G k → ¬ S k) : RefF w' r G L W := by
  obtain ⟨v, h1, h2, h3⟩ := h
  exact ⟨v, hc.keep h1 (hd r ((h3 r).2 (.inl rfl))), h2.chg hc fun k hk => hd k ((h3 k).2 (.inr hk)), h3⟩
theorem refNew_any (w : World) : Calls Try.prog 23 #[] w fun e w' => e = .returned (.pointer (some ⟨w.heap.size, 0, none⟩)) ∧ RefF w' w.heap.size (fun k => k = w.heap.size) [] 2 ∧ Chg (fun _ => False) w w' := by
  go_enter Try.func23, Try.ntmps23
  go_wp2_with fail
  go_ret
  exact ⟨rfl, ⟨.slice none 0 0, heap_new _ _, SliceIs.nil _ _ _, fun k => by simp [vblock]⟩, Chg.alloc _ _ _⟩
theorem refWants_any (x : Int) (w : World) : Calls Try.prog 71 #[.int .i64 x] w fun e w' => e = .returned (.int .i64 (wantsN x)) ∧ w = w' := by
  have HV := Lib.hid (show wantsN x = if -32768 ≤ x ∧ x ≤ 32767 then 2 else if -2147483648 ≤ x ∧ x ≤ 2147483647 then 4 else 8 from rfl)
  generalize wantsN x = v at *
  rcases Decidable.em (-32768 ≤ x) with a1 | a1 <;> rcases Decidable.em (x ≤ 32767) with a2 | a2 <;> rcases Decidable.em (-2147483648 ≤ x) with a3 | a3 <;> rcases Decidable.em (x ≤ 2147483647) with a4 | a4
  all_goals
    first
      | (exfalso; omega)
      | (first
          | (have hv : v = 2 := by rw [HV.out, if_pos (And.intro a1 a2)])
          | (have hv : v = 4 := by rw [HV.out, if_neg (by omega), if_pos (And.intro a3 a4)])
          | (have hv : v = 8 := by rw [HV.out, if_neg (by omega), if_neg (by omega)])
         subst hv
         first
           | (have e1 := decide_eq_false a1)
           | (have e1 := decide_eq_true a1)
         first
           | (have e2 := decide_eq_false a2)
           | (have e2 := decide_eq_true a2)
         first
           | (have e3 := decide_eq_false a3)
           | (have e3 := decide_eq_true a3)
         first
           | (have e4 := decide_eq_false a4)
           | (have e4 := decide_eq_true a4)
         clear a1 a2 a3 a4
         go_enter Try.func71, Try.ntmps71
         go_wp2_with fail
         go_ret
         exact ⟨rfl, rfl⟩)
section
variable {w : World} {r : Nat} {G : Nat → Prop} {L : List Int} {W : Nat}
theorem refLen (h : RefF w r G L W) : Calls Try.prog 53 #[.pointer (some ⟨r, 0, none⟩)] w fun e w' => e = .returned (.int .i64 L.length) ∧ w = w' := by
  obtain ⟨v, h1, h2, _⟩ := h
  obtain ⟨a, cap, rfl, h3⟩ := h2.arg
  have c0 := cell_in h1 (i := 0) rfl
  have := h3.1
  clear h1 h2 h3
  go_enter Try.func53, Try.ntmps53
  go_wp2_with fail
  go_ret
  exact ⟨rfl, rfl⟩
theorem refWidth (h : RefF w r G L W) : Calls Try.prog 54 #[.pointer (some ⟨r, 0, none⟩)] w fun e w' => e = .returned (.int .i64 W) ∧ w = w' := by
  obtain ⟨v, h1, h2, _⟩ := h
  have c1 := cell_in h1 (i := 1) rfl
  clear h1 h2
  go_enter Try.func54, Try.ntmps54
  go_wp2_with fail
  go_ret
  exact ⟨rfl, rfl⟩
theorem refHas (h : RefF w r G L W) (x : Int) (hm : L.length ≤ 100000000) : Calls Try.prog 52 #[.pointer (some ⟨r, 0, none⟩), .int .i64 x] w fun e w' => e = .returned (.bool (decide (x ∈ L))) ∧ w = w' := by
  obtain ⟨v, h1, h2, _⟩ := h
  obtain ⟨a, cap, rfl, h3⟩ := h2.arg
  have c0 := cell_in h1 (i := 0) rfl
  have hlc := h3.1
  have HA := Lib.hid h3
  clear h1 h2 h3
  go_enter Try.func52, Try.ntmps52
  go_wp2_with fail
  go_loop [5] (fun i => ∃ k : Nat, k ≤ L.length ∧ i = .int .i64 k ∧ Hid (∀ j, j < k → L.getD j 0 ≠ x)) (fun i => L.length - (intOf i).toNat)
  case atStart => exact ⟨0, Nat.zero_le _, rfl, Lib.hid fun j h => by omega⟩
  case round =>
    obtain ⟨k, hk, rfl, hI⟩ := hrel
    by_cases hlt : k < L.length
    · obtain ⟨b, o, ha, hc⟩ := HA.out.2.resolve_left (by omega)
      subst ha
      have hcell : w.cell? ⟨b, o + k, none⟩ = some (.int .i64 (L.getD k 0)) := by
        have := hc k hlt
        rw [this]
        simp [List.getD, hlt, i64v]
      have HM := Lib.hid (show L.getD k 0 ∈ L by simp [List.getD, hlt])
      have HNx := Lib.hid (show L.getD k 0 ≠ x → ∀ j, j < k + 1 → L.getD j 0 ≠ x from fun h j h1 => by
        by_cases hj : j = k
        · subst hj; exact h
        · exact hI.out j (by omega))
      clear hc HA hI
      generalize L.getD k 0 = y at *
      rcases Bool.eq_false_or_eq_true (y == x) with hxy | hxy
      · go_wp2_with fail
        go_ret
        have : y = x := by simpa using hxy
        subst this
        exact ⟨ret1 (by rw [decide_eq_true HM.out]; rfl), rfl⟩
      · go_wp2_with fail
        go_round
        case rel => exact ⟨k + 1, by omega, by go_num, Lib.hid (HNx.out (by simpa using hxy))⟩
        case measure => simp [intOf]; omega
    · go_wp2_with fail
      go_ret
      have : x ∉ L := fun h => by
        obtain ⟨j, hj, rfl⟩ := List.getElem_of_mem h
        exact hI.out j (by omega) (by simp [List.getD, hj])
      exact ⟨ret1 (by rw [decide_eq_false this]; rfl), rfl⟩
theorem refAt (h : RefF w r G L W) (i : Int) : Calls Try.prog 51 #[.pointer (some ⟨r, 0, none⟩), .int .i64 i] w fun e w' => e = .returned (atVal L i) ∧ w = w' := by
  obtain ⟨v, h1, h2, _⟩ := h
  obtain ⟨a, cap, rfl, h3⟩ := h2.arg
  have c0 := cell_in h1 (i := 0) rfl
  have hlc := h3.1
  by_cases hi : 0 ≤ i ∧ i < L.length
  · obtain ⟨k, rfl⟩ := Int.eq_ofNat_of_zero_le hi.1
    have hlt : k < L.length := by have := hi.2; omega
    obtain ⟨b, o, ha, hc⟩ := h3.2.resolve_left (by omega)
    subst ha
    have hcell : w.cell? ⟨b, o + k, none⟩ = some (.int .i64 (L.getD k 0)) := by
      have := hc k hlt
      rw [this]
      simp [List.getD, hlt, i64v]
    have HV := Lib.hid (show atVal L (k : Int) = .tuple #[.int .i64 (L.getD k 0), .bool true] by rw [atVal, if_pos hi, Int.toNat_natCast])
    clear hc h3 h2 h1 hi
    generalize L.getD k 0 = y at *
    go_enter Try.func51, Try.ntmps51
    go_wp2_with fail
    go_ret2
    exact ⟨by rw [HV.out]; rfl, rfl⟩
  · have HV := Lib.hid (show atVal L i = .tuple #[.int .i64 0, .bool false] by rw [atVal, if_neg hi])
    clear h3 h2 h1
    by_cases h0 : i < 0
    · have e1 := decide_eq_true h0
      clear hi
      go_enter Try.func51, Try.ntmps51
      go_wp2_with fail
      go_ret2
      exact ⟨by rw [HV.out]; rfl, rfl⟩
    · have e1 := decide_eq_false h0
      have e2 : decide ((L.length : Int) ≤ i) = true := by simp; omega
      clear hi
      go_enter Try.func51, Try.ntmps51
      go_wp2_with fail
      go_ret2
      exact ⟨by rw [HV.out]; rfl, rfl⟩
end
/-! A nil one. -/
theorem refLen0 (w : World) : Calls Try.prog 53 #[.pointer none] w fun e w' => e = .returned (.int .i64 0) ∧ w = w' := by
  go_enter Try.func53, Try.ntmps53
  go_wp2_with fail
  go_ret
  exact ⟨rfl, rfl⟩
theorem refWidth0 (w : World) : Calls Try.prog 54 #[.pointer none] w fun e w' => e = .returned (.int .i64 0) ∧ w = w' := by
  go_enter Try.func54, Try.ntmps54
  go_wp2_with fail
  go_ret
  exact ⟨rfl, rfl⟩
theorem refBytes0 (w : World) : Calls Try.prog 55 #[.pointer none] w fun e w' => e = .returned (.string (strOf [])) ∧ w = w' := by
  go_enter Try.func55, Try.ntmps55
  go_wp2_with fail
  go_ret
  exact ⟨rfl, rfl⟩
theorem refAt0 (w : World) (i : Int) : Calls Try.prog 51 #[.pointer none, .int .i64 i] w fun e w' => e = .returned (.tuple #[.int .i64 0, .bool false]) ∧ w = w' := by
  go_enter Try.func51, Try.ntmps51
  go_wp2_with fail
  go_ret2
  exact ⟨rfl, rfl⟩
theorem refHas0 (w : World) (x : Int) : Calls Try.prog 52 #[.pointer none, .int .i64 x] w fun e w' => e = .returned (.bool false) ∧ w = w' := by
  go_enter Try.func52, Try.ntmps52
  go_wp2_with fail
  go_loop [5] (fun i => i = .int .i64 0) (fun i => 0)
  case atStart => rfl
  case round =>
    subst hrel
    go_wp2_with fail
    go_ret
    exact ⟨rfl, rfl⟩
theorem refAdd0 (w : World) (x : Int) : Calls Try.prog 49 #[.pointer none, .int .i64 x] w fun e w' => e = .returned (.bool false) ∧ w = w' := by
  go_enter Try.func49, Try.ntmps49
  go_wp2_with fail
  go_ret
  exact ⟨rfl, rfl⟩
theorem refRemove0 (w : World) (x : Int) : Calls Try.prog 50 #[.pointer none, .int .i64 x] w fun e w' => e = .returned (.bool false) ∧ w = w' := by
  have H := Lib.hid (refHas0 w x)
  go_enter Try.func50, Try.ntmps50
  go_wp2_with fail
  refine H.out.mono ?_
  rintro e w' ⟨rfl, rfl⟩
  go_wp2_with fail
  go_ret
  exact ⟨rfl, rfl⟩
end Go.Proofs.Ytncdckakcmoejaa
