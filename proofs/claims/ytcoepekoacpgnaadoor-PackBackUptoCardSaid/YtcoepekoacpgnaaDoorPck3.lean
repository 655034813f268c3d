/- num.Int, num.IntText. -/
import Derived.Test.YtcoepekoacpgnaaDoorDec0
import Derived.Test.YtcoepekoacpgnaaDoorPck1
namespace Go.Proofs.YtcoepekoacpgnaaDoor
set_option linter.unusedVariables false
set_option linter.unusedSimpArgs false
open Go.RowKit
theorem fmtI (n : Int) (hn : -9223372036854775808 ≤ n ∧ n ≤ 9223372036854775807) {w : World} (hl : Laid w) :
    Calls Tryd.prog 91 #[.int .i64 n, .int .i64 10] w fun e w' => e = .returned (.string (intT n)) ∧ Below w.heap.size w w' :=
  (Tryd.strconv_FormatInt_10 n hn.1 hn.2 w hl.tab).mono fun e w' ⟨h1, k, os, h2⟩ => ⟨h1, by rw [h2]; exact Lib.below_grow _ w (Nat.le_refl _) k os⟩
set_option maxHeartbeats 800000 in
set_option maxRecDepth 100000 in
theorem intText_any (n : Int) (hn : -9223372036854775808 ≤ n ∧ n ≤ 9223372036854775807) {w : World} (hl : Laid w) :
    Calls Tryd.prog 77 #[.int .i64 n] w fun e w' => e = .returned (.string (intT n)) ∧ Below w.heap.size w w' := by
  have H := Lib.hid (fmtI n hn hl)
  clear hl
  go_enter Tryd.func77, Tryd.ntmps77
  go_wp2_with fail
  refine H.out.mono ?_
  rintro e w' ⟨rfl, hb⟩
  have HB := Lib.hid hb
  clear hb
  go_wp2_with fail
  go_ret
  exact ⟨rfl, HB.out⟩
def intV (s : ByteArray) : Value := match intS s with
  | some n => .tuple #[.int .i64 n, .bool true]
  | none => .tuple #[.int .i64 0, .bool false]
set_option maxHeartbeats 1600000 in
set_option maxRecDepth 100000 in
theorem int_any (s : ByteArray) (hs : s.size ≤ 281474976710656) {w : World} (hl : Laid w) :
    Calls Tryd.prog 78 #[.string s] w fun e w' => e = .returned (intV s) ∧ Below w.heap.size w w' := by
  cases hp : Lib.parseIntB 64 s.data.toList with
  | ok u =>
    have hu := parseI_range hp
    have HP := Lib.hid (Tryd.strconv_ParseInt_10_at64_ok s (by omega) u hp w)
    have HF := Lib.hid (fun w' (hb : Below w.heap.size w w') => fmtI u hu (hl.below hb))
    by_cases hi : intT u = s
    · have he : intV s = .tuple #[.int .i64 u, .bool true] := by
        have h2 : strOf (Lib.itoa u) = s := hi
        unfold intV intS; rw [hp]; simp [h2]
      rw [he]
      obtain ⟨t, ht⟩ : ∃ t, intT u = t := ⟨_, rfl⟩
      rw [ht] at HF hi
      have hb := str_eq hi
      have HI := Lib.hid hi
      clear hl he hp ht hi
      go_enter Tryd.func78, Tryd.ntmps78
      go_wp2_with fail
      refine HP.out.mono ?_
      rintro e w1 ⟨rfl, hw1⟩
      have HB1 := Lib.hid (show Below w.heap.size w w1 by
        rcases hw1 with rfl | ⟨_, rfl⟩
        · exact Below.refl _ _
        · exact Lib.bytesWorld_below _ _ _)
      clear hw1
      go_wp2_with fail
      refine (HF.out _ HB1.out).mono ?_
      rintro e w2 ⟨rfl, hb2⟩
      have HB2 := Lib.hid (HB1.out.trans (hb2.mono HB1.out.size))
      clear hb2
      go_wp2_with fail
      go_ret2
      exact ⟨rfl, HB2.out⟩
    · have he : intV s = .tuple #[.int .i64 0, .bool false] := by
        have h2 : ¬ strOf (Lib.itoa u) = s := hi
        unfold intV intS; rw [hp]; simp [h2]
      rw [he]
      obtain ⟨t, ht⟩ : ∃ t, intT u = t := ⟨_, rfl⟩
      rw [ht] at HF hi
      have hb := str_ne hi
      clear hl he hp ht hi
      go_enter Tryd.func78, Tryd.ntmps78
      go_wp2_with fail
      refine HP.out.mono ?_
      rintro e w1 ⟨rfl, hw1⟩
      have HB1 := Lib.hid (show Below w.heap.size w w1 by
        rcases hw1 with rfl | ⟨_, rfl⟩
        · exact Below.refl _ _
        · exact Lib.bytesWorld_below _ _ _)
      clear hw1
      go_wp2_with fail
      refine (HF.out _ HB1.out).mono ?_
      rintro e w2 ⟨rfl, hb2⟩
      have HB2 := Lib.hid (HB1.out.trans (hb2.mono HB1.out.size))
      clear hb2
      go_wp2_with fail
      go_ret2
      exact ⟨rfl, HB2.out⟩
  | range =>
    have he : intV s = .tuple #[.int .i64 0, .bool false] := by unfold intV intS; rw [hp]
    rw [he]
    obtain ⟨tp, p, hv⟩ := hl.rng
    have HP := Lib.hid (Tryd.strconv_ParseInt_10_at64_range_var s hs hp tp p w hv)
    clear hl he hp hv
    go_enter Tryd.func78, Tryd.ntmps78
    go_wp2_with fail
    refine HP.out.mono ?_
    rintro e w1 ⟨N, rfl, _, _, hb⟩
    have HB1 := Lib.hid hb
    clear hb
    go_wp2_with fail
    go_ret2
    exact ⟨rfl, HB1.out⟩
  | _ =>
    have he : intV s = .tuple #[.int .i64 0, .bool false] := by unfold intV intS; rw [hp]
    rw [he]
    obtain ⟨tp, p, hv⟩ := hl.syn
    have HP := Lib.hid (Tryd.strconv_ParseInt_10_at64_syntax_var s hs hp tp p w hv)
    clear hl he hp hv
    go_enter Tryd.func78, Tryd.ntmps78
    go_wp2_with fail
    refine HP.out.mono ?_
    rintro e w1 ⟨N, rfl, _, _, hb⟩
    have HB1 := Lib.hid hb
    clear hb
    go_wp2_with fail
    go_ret2
    exact ⟨rfl, HB1.out⟩
end Go.Proofs.YtcoepekoacpgnaaDoor
