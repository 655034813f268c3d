/- The walks of the layer ints, part 5: New, Has, At, Bytes; a set that is not there. -/
import Derived.Test.YtncdckakcmoejaaInts4
import Derived.Test.YtncdckakcmoejaaStr
namespace Go.Proofs.Ytncdckakcmoejaa
set_option linter.unusedVariables false
set_option linter.unusedSimpArgs false
open Go.RowKit

/-- New's set. -/
theorem run_new_bytes (w : World) : (Instr.makeSlice 44 (.int .i64 8) (.int .i64 8)).run Try.prog w = .ok (.slice (some ⟨w.heap.size, 0, none⟩) 8 8) (w.alloc (.cells (zeroRow 8) 5)) := by
  obtain ⟨i0, hi, hz0, hz1, hz2⟩ := info_parts info_u8
  exact run_make_row w _ _ i0 _ 1 Try.underlying44 hi hz0 hz1 hz2 rfl 8 (by decide) (by decide)
set_option maxHeartbeats 400000 in
theorem new_any (w : World) : Calls Try.prog 22 #[] w fun e w' => e = .returned (.pointer (some ⟨w.heap.size + 1, 0, none⟩)) ∧ IntsRow w' (w.heap.size + 1) w.heap.size 8 ((intsBytes [] 2).map u8v).toArray [] 2 ∧ Chg (fun _ => False) w w' := by
  have hmk := run_new_bytes
  obtain ⟨w1, hw1⟩ : ∃ w1, w1 = (w.alloc (.cells (zeroRow 8) 5)).alloc (.cells #[.slice (some ⟨w.heap.size, 0, none⟩) 8 8, .nilFunc, .int .i64 0] 47) := ⟨_, rfl⟩
  have hp : w1.heap[w.heap.size + 1]? = some (.cells #[.slice (some ⟨w.heap.size, 0, none⟩) 8 8, .nilFunc, .int .i64 0] 47 (0, 0)) := by
    rw [hw1, show w.heap.size + 1 = (w.alloc (.cells (zeroRow 8) 5)).heap.size by simp]; exact heap_new _ _
  have hg : RowAt w1 w.heap.size 5 (zeroRow 8) := by rw [hw1]; exact (RowAt.of (heap_new w _)).old _
  have hc : Chg (fun _ => False) w w1 := by rw [hw1]; exact (Chg.alloc _ _ _).trans (Chg.alloc _ _ _) fun _ h _ => h
  have HWd := Lib.hid (wide_any 2 (.inl rfl) hp hg (by omega) (by omega) (by decide) (zeroRow_size 8))
  have HC := Lib.hid hc
  have HW := Lib.hid hw1
  clear hp hg hc hw1
  go_enter Try.func22, Try.ntmps22
  go_wp2_with fail
  rw [← HW.out]
  refine HWd.out.mono ?_
  rintro e w2 ⟨rfl, q1, q2, q3⟩
  have H1 := Lib.hid q1
  have H2 := Lib.hid q2
  have H3 := Lib.hid q3
  clear q1 q2 q3
  go_wp2_with fail
  go_ret
  have hz : wrs (zeroRow 8) 0 ((leN 4 2).map u8v) = ((intsBytes [] 2).map u8v).toArray := by rfl
  refine ⟨rfl, ⟨H1.out, by rw [← hz]; exact H2.out, by omega, rfl, by simp, by decide, List.take_of_length_le (by simp [intsBytes]), .inl rfl, by simp, by simp⟩, HC.out.trans H3.out fun k h hk => by omega⟩

set_option maxHeartbeats 400000 in
theorem has_row {w : World} {p g cap : Nat} {x : Int} {cur : Array Value} {L : List Int} {W : Nat} (h : IntsRow w p g cap cur L W) (hL : L.Pairwise (· < ·)) :
    Calls Try.prog 27 #[.pointer (some ⟨p, 0, none⟩), .int .i64 x] w fun e w' => e = .returned (.bool (decide (x ∈ L))) ∧ Below w.heap.size w w' := by
  have HS := Lib.hid (seek_row h hL (x := x))
  have HLn := Lib.hid (len_row h)
  by_cases h0 : L.length = 0
  · have hv : decide (x ∈ L) = false := by simp [List.eq_nil_of_length_eq_zero h0]
    rw [hv]
    have hb : ((L.length : Int) == 0) = true := by simp [h0]
    clear h0 hv h hL
    go_enter Try.func27, Try.ntmps27
    go_wp2_with fail
    refine HLn.out.mono ?_
    rintro e w' ⟨rfl, rfl⟩
    go_wp2_with fail
    go_ret
    exact ⟨rfl, Below.refl _ _⟩
  · have hb : ((L.length : Int) == 0) = false := by simpa using fun h => h0 (by simp [h])
    clear h0 h hL
    go_enter Try.func27, Try.ntmps27
    go_wp2_with fail
    refine HLn.out.mono ?_
    rintro e w' ⟨rfl, rfl⟩
    go_wp2_with fail
    refine HS.out.mono ?_
    rintro e w2 ⟨r, hr, rfl, hb2⟩
    have HB := Lib.hid hb2
    clear hb2 hr
    go_wp2_with fail
    go_ret
    exact ⟨rfl, HB.out⟩

def atVal (L : List Int) (i : Int) : Value := if 0 ≤ i ∧ i < L.length then .tuple #[.int .i64 (L.getD i.toNat 0), .bool true] else .tuple #[.int .i64 0, .bool false]
set_option maxHeartbeats 400000 in
theorem At_row {w : World} {p g cap : Nat} (i : Int) {cur : Array Value} {L : List Int} {W : Nat} (h : IntsRow w p g cap cur L W) :
    Calls Try.prog 26 #[.pointer (some ⟨p, 0, none⟩), .int .i64 i] w fun e w' => e = .returned (atVal L i) ∧ ∃ n, w' = w.drewN n := by
  have HLn := Lib.hid (len_row h)
  by_cases h0 : i < 0
  · have HV := Lib.hid (show atVal L i = _ from if_neg (by omega))
    clear h
    go_enter Try.func26, Try.ntmps26
    go_wp2_with fail
    go_ret2
    exact ⟨by rw [HV.out]; rfl, 0, rfl⟩
  · obtain ⟨k, rfl⟩ := Int.eq_ofNat_of_zero_le (show 0 ≤ i by omega)
    by_cases h1 : k < L.length
    · have HV := Lib.hid (show atVal L k = .tuple #[.int .i64 (L.getD k 0), .bool true] from by unfold atVal; rw [if_pos (by omega)]; simp)
      have HA := Lib.hid (at_row h h1)
      clear h h0
      generalize L.getD k 0 = y at *
      go_enter Try.func26, Try.ntmps26
      go_wp2_with fail
      refine HLn.out.mono ?_
      rintro e w' ⟨rfl, rfl⟩
      go_wp2_with fail
      refine HA.out.mono ?_
      rintro e w' ⟨rfl, n, rfl⟩
      go_wp2_with fail
      go_ret2
      exact ⟨by rw [HV.out]; rfl, n, rfl⟩
    · have HV := Lib.hid (show atVal L k = .tuple #[.int .i64 0, .bool false] from by unfold atVal; rw [if_neg (by omega)])
      clear h h0
      go_enter Try.func26, Try.ntmps26
      go_wp2_with fail
      refine HLn.out.mono ?_
      rintro e w' ⟨rfl, rfl⟩
      go_wp2_with fail
      go_ret2
      exact ⟨by rw [HV.out]; rfl, 0, rfl⟩
set_option maxHeartbeats 400000 in
theorem bytes_row {w : World} {p g cap : Nat} {cur : Array Value} {L : List Int} {W : Nat} (h : IntsRow w p g cap cur L W) :
    Calls Try.prog 18 #[.pointer (some ⟨p, 0, none⟩)] w fun e w' => e = .returned (.string (strOf (intsBytes L W))) ∧ w = w' := by
  have c0 := h.cell0
  have hcv := run_string_row (P := Try.prog) w 44 9 5 Try.underlying44 Try.underlying5 Try.underlying9 g 0 (8 + L.length * W) cap (intsBytes L W) (intsBytes_length L W)
    (cells_of_take h.row (intsBytes_length L W) h.bytes (o := 0) (by rw [List.drop_zero, List.take_length]))
  clear h
  generalize strOf (intsBytes L W) = s at *
  go_enter Try.func18, Try.ntmps18
  go_wp2_with fail
  go_ret
  exact ⟨rfl, rfl⟩

/-- A set that is not there: nil, or the zero struct. -/
def NoInts (w : World) (a : Option Addr) : Prop := a = none ∨ ∃ z, a = some ⟨z, 0, none⟩ ∧ w.heap[z]? = some (.cells #[.slice none 0 0, .nilFunc, .int .i64 0] 47 (0, 0))
set_option maxHeartbeats 400000 in
theorem len_no {w : World} {a : Option Addr} (h : NoInts w a) :
    Calls Try.prog 19 #[.pointer a] w fun e w' => e = .returned (.int .i64 0) ∧ w = w' := by
  rcases h with rfl | ⟨z, rfl, hz⟩
  · go_enter Try.func19, Try.ntmps19
    go_wp2_with fail
    go_ret
    exact ⟨rfl, rfl⟩
  · have c0 := cell_in hz (i := 0) rfl
    have c1 := cell_in hz (i := 2) rfl
    clear hz
    go_enter Try.func19, Try.ntmps19
    go_wp2_with fail
    go_ret
    exact ⟨rfl, rfl⟩
set_option maxHeartbeats 400000 in
theorem width_no {w : World} {a : Option Addr} (h : NoInts w a) :
    Calls Try.prog 20 #[.pointer a] w fun e w' => e = .returned (.int .i64 0) ∧ w = w' := by
  rcases h with rfl | ⟨z, rfl, hz⟩
  · go_enter Try.func20, Try.ntmps20
    go_wp2_with fail
    go_ret
    exact ⟨rfl, rfl⟩
  · have c0 := cell_in hz (i := 0) rfl
    have c1 := cell_in hz (i := 2) rfl
    clear hz
    go_enter Try.func20, Try.ntmps20
    go_wp2_with fail
    go_ret
    exact ⟨rfl, rfl⟩
set_option maxHeartbeats 400000 in
theorem add_no {w : World} {a : Option Addr} (x : Int) (h : NoInts w a) :
    Calls Try.prog 21 #[.pointer a, .int .i64 x] w fun e w' => e = .returned (.bool false) ∧ w = w' := by
  rcases h with rfl | ⟨z, rfl, hz⟩
  · go_enter Try.func21, Try.ntmps21
    go_wp2_with fail
    go_ret
    exact ⟨rfl, rfl⟩
  · have c0 := cell_in hz (i := 0) rfl
    have c1 := cell_in hz (i := 2) rfl
    clear hz
    go_enter Try.func21, Try.ntmps21
    go_wp2_with fail
    go_ret
    exact ⟨rfl, rfl⟩
set_option maxHeartbeats 400000 in
theorem has_no {w : World} {a : Option Addr} (x : Int) (h : NoInts w a) :
    Calls Try.prog 27 #[.pointer a, .int .i64 x] w fun e w' => e = .returned (.bool false) ∧ w = w' := by
  have HLn := Lib.hid (len_no h)
  rcases h with rfl | ⟨z, rfl, hz⟩
  · go_enter Try.func27, Try.ntmps27
    go_wp2_with fail
    refine HLn.out.mono ?_
    rintro e w' ⟨rfl, rfl⟩
    go_wp2_with fail
    go_ret
    exact ⟨rfl, rfl⟩
  · have c0 := cell_in hz (i := 0) rfl
    have c1 := cell_in hz (i := 2) rfl
    clear hz
    go_enter Try.func27, Try.ntmps27
    go_wp2_with fail
    refine HLn.out.mono ?_
    rintro e w' ⟨rfl, rfl⟩
    go_wp2_with fail
    go_ret
    exact ⟨rfl, rfl⟩
set_option maxHeartbeats 400000 in
theorem remove_no {w : World} {a : Option Addr} (x : Int) (h : NoInts w a) :
    Calls Try.prog 37 #[.pointer a, .int .i64 x] w fun e w' => e = .returned (.bool false) ∧ w = w' := by
  have HLn := Lib.hid (len_no h)
  rcases h with rfl | ⟨z, rfl, hz⟩
  · go_enter Try.func37, Try.ntmps37
    go_wp2_with fail
    refine HLn.out.mono ?_
    rintro e w' ⟨rfl, rfl⟩
    go_wp2_with fail
    go_ret
    exact ⟨rfl, rfl⟩
  · have c0 := cell_in hz (i := 0) rfl
    have c1 := cell_in hz (i := 2) rfl
    clear hz
    go_enter Try.func37, Try.ntmps37
    go_wp2_with fail
    refine HLn.out.mono ?_
    rintro e w' ⟨rfl, rfl⟩
    go_wp2_with fail
    go_ret
    exact ⟨rfl, rfl⟩
set_option maxHeartbeats 400000 in
theorem At_no {w : World} {a : Option Addr} (i : Int) (h : NoInts w a) :
    Calls Try.prog 26 #[.pointer a, .int .i64 i] w fun e w' => e = .returned (.tuple #[.int .i64 0, .bool false]) ∧ w = w' := by
  have HLn := Lib.hid (len_no h)
  clear h
  by_cases h0 : i < 0
  · go_enter Try.func26, Try.ntmps26
    go_wp2_with fail
    go_ret2
    exact ⟨rfl, rfl⟩
  · have h1 : 0 ≤ i := by omega
    go_enter Try.func26, Try.ntmps26
    go_wp2_with fail
    refine HLn.out.mono ?_
    rintro e w' ⟨rfl, rfl⟩
    go_wp2_with fail
    go_ret2
    exact ⟨rfl, rfl⟩
set_option maxHeartbeats 400000 in
theorem bytes_no {w : World} {a : Option Addr} (h : NoInts w a) :
    Calls Try.prog 18 #[.pointer a] w fun e w' => e = .returned (.string (strOf [])) ∧ w = w' := by
  have hcv := run_string_nil (P := Try.prog) w 44 9 5 Try.underlying44 Try.underlying5 Try.underlying9 0 0
  rcases h with rfl | ⟨z, rfl, hz⟩
  · go_enter Try.func18, Try.ntmps18
    go_wp2_with fail
    go_ret
    exact ⟨rfl, rfl⟩
  · have c0 := cell_in hz (i := 0) rfl
    have c1 := cell_in hz (i := 2) rfl
    clear hz
    generalize strOf [] = s at *
    go_enter Try.func18, Try.ntmps18
    go_wp2_with fail
    go_ret
    exact ⟨rfl, rfl⟩
end Go.Proofs.Ytncdckakcmoejaa
