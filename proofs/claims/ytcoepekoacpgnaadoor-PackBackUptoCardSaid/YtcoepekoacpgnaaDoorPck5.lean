/- pack.entry. -/
import Derived.Test.YtcoepekoacpgnaaDoorPck4
import Derived.Test.YtcoepekoacpgnaaDoorApd
namespace Go.Proofs.YtcoepekoacpgnaaDoor
set_option linter.unusedVariables false
set_option linter.unusedSimpArgs false
open Go.RowKit
/-- The conversions to fewer bits, as the walk meets them. -/
theorem i8_fit {n : Int} : (n == wrap64 (IntKind.i8.wrap n)) = decide (-128 ≤ n ∧ n ≤ 127) := by
  rw [Bool.eq_iff_iff, beq_iff_eq, decide_eq_true_iff]
  have h1 : IntKind.i8.wrap n = (n + 128) % 256 - 128 := by simp [IntKind.wrap, IntKind.bits, IntKind.signed, Int.bmod]; omega
  rw [h1]
  have h2 : wrap64 ((n + 128) % 256 - 128) = (n + 128) % 256 - 128 := by unfold wrap64; omega
  rw [h2]; omega
theorem i16_fit {n : Int} : (n == wrap64 (IntKind.i16.wrap n)) = decide (-32768 ≤ n ∧ n ≤ 32767) := by
  rw [Bool.eq_iff_iff, beq_iff_eq, decide_eq_true_iff]
  have h1 : IntKind.i16.wrap n = (n + 32768) % 65536 - 32768 := by simp [IntKind.wrap, IntKind.bits, IntKind.signed, Int.bmod]; omega
  rw [h1]
  have h2 : wrap64 ((n + 32768) % 65536 - 32768) = (n + 32768) % 65536 - 32768 := by unfold wrap64; omega
  rw [h2]; omega
theorem i32_fit {n : Int} : (n == wrap64 (wrap32 n)) = decide (-2147483648 ≤ n ∧ n ≤ 2147483647) := by
  rw [Bool.eq_iff_iff, beq_iff_eq, decide_eq_true_iff]
  have h1 : wrap32 n = (n + 2147483648) % 4294967296 - 2147483648 := by unfold wrap32; omega
  rw [h1]
  have h2 : wrap64 ((n + 2147483648) % 4294967296 - 2147483648) = (n + 2147483648) % 4294967296 - 2147483648 := by unfold wrap64; omega
  rw [h2]; omega
set_option maxHeartbeats 3200000 in
set_option maxRecDepth 100000 in
theorem entry_any (s : ByteArray) (hs : s.size ≤ 100000000) {w : World} (hl : Laid w) :
    Calls Tryd.prog 44 #[.string s] w fun e w' => ∃ v', e = .returned v' ∧ SliceIs w' w.heap.size 5 v' (entL s).length ((entL s).map u8v) ∧ Below w.heap.size w w' := by
  have HI := Lib.hid (int_any s (by omega) hl)
  obtain ⟨hd, hhd⟩ : ∃ hd, headL s = hd := ⟨_, rfl⟩
  obtain ⟨nh, hnh⟩ : ∃ nh, hd.length = nh := ⟨_, rfl⟩
  have hnh1 : 1 ≤ nh ∧ nh ≤ 100000009 := by have := headL_length s; rw [hhd, hnh] at this; omega
  have HE := Lib.hid (show entL s = hd ++ backL nh by unfold entL; rw [hhd, hnh])
  have HNh := Lib.hid hnh
  clear hl
  cases hn : intS s with
  | some n =>
    have hr := intS_range hn
    have hh := headL_int hn
    rw [hhd] at hh
    have hv : intV s = .tuple #[.int .i64 n, .bool true] := by unfold intV; rw [hn]
    rw [hv] at HI
    obtain ⟨m, hm⟩ : ∃ m, (n % 18446744073709551616).toNat = m := ⟨_, rfl⟩
    rw [hm] at hh
    have hml : m < 18446744073709551616 := by omega
    have hwu : IntKind.u64.wrap n = (m : Int) := by rw [IntKind.wrap_u64]; omega
    have hw8 : n % 256 = (m : Int) % 256 := by omega
    by_cases h8 : -128 ≤ n ∧ n ≤ 127
    · have hc8 : (n == wrap64 (IntKind.i8.wrap n)) = true := by rw [i8_fit]; exact decide_eq_true h8
      have hw : wideI n = 1 := by unfold wideI; rw [if_pos h8]
      rw [hw] at hh
      have hcells : (#[.int .u8 241, .int .u8 (n % 256)] : Array Value).toList = hd.map u8v := by
        rw [hh]
        simp only [leN, List.map_cons, List.map_nil, u8v_of, hw8]
        rfl
      have hn2 : nh = 2 := by rw [← hnh, hh]; simp
      have HMk := Lib.hid (fun w => made_bytes (w := w) hd _ hcells (n := 2) (by omega) (by omega))
      have HBk := Lib.hid (fun w => back_any 2 (by omega) w)
      subst hn2
      clear hr hh hwu hw8 hcells hv hm hw hnh hhd hn
      go_enter Tryd.func44, Tryd.ntmps44
      go_wp2_with fail
      refine HI.out.mono ?_
      rintro e w1 ⟨rfl, b1⟩
      have B1 := Lib.hid b1
      clear b1
      go_wp2_with fail
      refine (HBk.out _).mono ?_
      rintro e w3 ⟨v3, rfl, s3, b3⟩
      have s2 := (HMk.out w1).below b3
      have bb : Below w1.heap.size w1 w3 := ((Below.refl _ _).alloc (Nat.le_refl _) _).trans (b3.mono (by simp))
      obtain ⟨v4, w4, r4, s4, b4⟩ := append_bytes2 s2 bb.size s3 (by have := backL_length 2 (by omega); omega) (by have := backL_length 2 (by omega); omega)
      have HR := Lib.hid r4
      have HS := Lib.hid (And.intro s4 ((B1.out).trans ((bb.trans b4).mono B1.out.size)))
      clear s2 s3 s4 r4 b3 b4 bb
      go_wp2_with (at_builtin; refine wpList_append_run rfl rfl HR.out ?_)
      go_ret
      refine ⟨_, rfl, ?_, HS.out.2⟩
      rw [HE.out, List.length_append, HNh.out]
      exact HS.out.1.mono B1.out.size
    · by_cases h16 : -32768 ≤ n ∧ n ≤ 32767
      · have hc8 : (n == wrap64 (IntKind.i8.wrap n)) = false := by rw [i8_fit]; exact decide_eq_false h8
        have hc16 : (n == wrap64 (IntKind.i16.wrap n)) = true := by rw [i16_fit]; exact decide_eq_true h16
        have hw : wideI n = 2 := by unfold wideI; rw [if_neg h8, if_pos h16]
        rw [hw] at hh
        have HH := Lib.hid (show hd = [(242 : UInt8)] ++ leN 2 m from hh)
        have hn2 : nh = 3 := by rw [← hnh, hh]; simp
        have HMk := Lib.hid (fun w => made_bytes (w := w) [(242 : UInt8)] #[.int .u8 242] rfl (n := 1) rfl (by omega))
        have HBk := Lib.hid (fun w => back_any 3 (by omega) w)
        subst hn2
        clear hr hh hw8 hv hm hw hnh hhd hn
        go_enter Tryd.func44, Tryd.ntmps44
        go_wp2_with fail
        refine HI.out.mono ?_
        rintro e w1 ⟨rfl, b1⟩
        have B1 := Lib.hid b1
        clear b1
        have HAp := Lib.hid (octAppend (HMk.out w1) (by simp) m 2 hml (by omega) (by simp))
        go_wp2_with fail
        refine HAp.out.mono ?_
        rintro e w2 ⟨v2, rfl, s2, b2⟩
        rw [show ([(242 : UInt8)] ++ leN 2 m).length = 3 by simp] at s2
        obtain ⟨a2, c2, rfl, _⟩ := s2.arg
        have B2 := Lib.hid (show Below w1.heap.size w1 w2 from ((Below.refl _ _).alloc (Nat.le_refl _) _).trans b2)
        have S2 := Lib.hid s2
        clear s2 b2 HAp
        go_wp2_with fail
        refine (HBk.out _).mono ?_
        rintro e w3 ⟨v3, rfl, s3, b3⟩
        have s2 := S2.out.below b3
        rw [show [(242 : UInt8)] ++ leN 2 m = hd from HH.out.symm] at s2
        have bb : Below w1.heap.size w1 w3 := B2.out.trans (b3.mono B2.out.size)
        obtain ⟨v4, w4, r4, s4, b4⟩ := append_bytes2 s2 bb.size s3 (by have := backL_length 3 (by omega); omega) (by have := backL_length 3 (by omega); omega)
        have HR := Lib.hid r4
        have HS := Lib.hid (And.intro s4 ((B1.out).trans ((bb.trans b4).mono B1.out.size)))
        clear s2 s3 s4 r4 b3 b4 bb
        go_wp2_with (at_builtin; refine wpList_append_run rfl rfl HR.out ?_)
        go_ret
        refine ⟨_, rfl, ?_, HS.out.2⟩
        rw [HE.out, List.length_append, HNh.out]
        exact HS.out.1.mono B1.out.size
      · by_cases h32 : -2147483648 ≤ n ∧ n ≤ 2147483647
        · have hc8 : (n == wrap64 (IntKind.i8.wrap n)) = false := by rw [i8_fit]; exact decide_eq_false h8
          have hc16 : (n == wrap64 (IntKind.i16.wrap n)) = false := by rw [i16_fit]; exact decide_eq_false h16
          have hc32 : (n == wrap64 (wrap32 n)) = true := by rw [i32_fit]; exact decide_eq_true h32
          have hw : wideI n = 4 := by unfold wideI; rw [if_neg h8, if_neg h16, if_pos h32]
          rw [hw] at hh
          have HH := Lib.hid (show hd = [(244 : UInt8)] ++ leN 4 m from hh)
          have hn2 : nh = 5 := by rw [← hnh, hh]; simp
          have HMk := Lib.hid (fun w => made_bytes (w := w) [(244 : UInt8)] #[.int .u8 244] rfl (n := 1) rfl (by omega))
          have HBk := Lib.hid (fun w => back_any 5 (by omega) w)
          subst hn2
          clear hr hh hw8 hv hm hw hnh hhd hn
          go_enter Tryd.func44, Tryd.ntmps44
          go_wp2_with fail
          refine HI.out.mono ?_
          rintro e w1 ⟨rfl, b1⟩
          have B1 := Lib.hid b1
          clear b1
          have HAp := Lib.hid (octAppend (HMk.out w1) (by simp) m 4 hml (by omega) (by simp))
          go_wp2_with fail
          refine HAp.out.mono ?_
          rintro e w2 ⟨v2, rfl, s2, b2⟩
          rw [show ([(244 : UInt8)] ++ leN 4 m).length = 5 by simp] at s2
          obtain ⟨a2, c2, rfl, _⟩ := s2.arg
          have B2 := Lib.hid (show Below w1.heap.size w1 w2 from ((Below.refl _ _).alloc (Nat.le_refl _) _).trans b2)
          have S2 := Lib.hid s2
          clear s2 b2 HAp
          go_wp2_with fail
          refine (HBk.out _).mono ?_
          rintro e w3 ⟨v3, rfl, s3, b3⟩
          have s2 := S2.out.below b3
          rw [show [(244 : UInt8)] ++ leN 4 m = hd from HH.out.symm] at s2
          have bb : Below w1.heap.size w1 w3 := B2.out.trans (b3.mono B2.out.size)
          obtain ⟨v4, w4, r4, s4, b4⟩ := append_bytes2 s2 bb.size s3 (by have := backL_length 5 (by omega); omega) (by have := backL_length 5 (by omega); omega)
          have HR := Lib.hid r4
          have HS := Lib.hid (And.intro s4 ((B1.out).trans ((bb.trans b4).mono B1.out.size)))
          clear s2 s3 s4 r4 b3 b4 bb
          go_wp2_with (at_builtin; refine wpList_append_run rfl rfl HR.out ?_)
          go_ret
          refine ⟨_, rfl, ?_, HS.out.2⟩
          rw [HE.out, List.length_append, HNh.out]
          exact HS.out.1.mono B1.out.size
        · have hc8 : (n == wrap64 (IntKind.i8.wrap n)) = false := by rw [i8_fit]; exact decide_eq_false h8
          have hc16 : (n == wrap64 (IntKind.i16.wrap n)) = false := by rw [i16_fit]; exact decide_eq_false h16
          have hc32 : (n == wrap64 (wrap32 n)) = false := by rw [i32_fit]; exact decide_eq_false h32
          have hw : wideI n = 8 := by unfold wideI; rw [if_neg h8, if_neg h16, if_neg h32]
          rw [hw] at hh
          have HH := Lib.hid (show hd = [(248 : UInt8)] ++ leN 8 m from hh)
          have hn2 : nh = 9 := by rw [← hnh, hh]; simp
          have HMk := Lib.hid (fun w => made_bytes (w := w) [(248 : UInt8)] #[.int .u8 248] rfl (n := 1) rfl (by omega))
          have HBk := Lib.hid (fun w => back_any 9 (by omega) w)
          subst hn2
          clear hr hh hw8 hv hm hw hnh hhd hn
          go_enter Tryd.func44, Tryd.ntmps44
          go_wp2_with fail
          refine HI.out.mono ?_
          rintro e w1 ⟨rfl, b1⟩
          have B1 := Lib.hid b1
          clear b1
          have HAp := Lib.hid (octAppend (HMk.out w1) (by simp) m 8 hml (by omega) (by simp))
          go_wp2_with fail
          refine HAp.out.mono ?_
          rintro e w2 ⟨v2, rfl, s2, b2⟩
          rw [show ([(248 : UInt8)] ++ leN 8 m).length = 9 by simp] at s2
          obtain ⟨a2, c2, rfl, _⟩ := s2.arg
          have B2 := Lib.hid (show Below w1.heap.size w1 w2 from ((Below.refl _ _).alloc (Nat.le_refl _) _).trans b2)
          have S2 := Lib.hid s2
          clear s2 b2 HAp
          go_wp2_with fail
          refine (HBk.out _).mono ?_
          rintro e w3 ⟨v3, rfl, s3, b3⟩
          have s2 := S2.out.below b3
          rw [show [(248 : UInt8)] ++ leN 8 m = hd from HH.out.symm] at s2
          have bb : Below w1.heap.size w1 w3 := B2.out.trans (b3.mono B2.out.size)
          obtain ⟨v4, w4, r4, s4, b4⟩ := append_bytes2 s2 bb.size s3 (by have := backL_length 9 (by omega); omega) (by have := backL_length 9 (by omega); omega)
          have HR := Lib.hid r4
          have HS := Lib.hid (And.intro s4 ((B1.out).trans ((bb.trans b4).mono B1.out.size)))
          clear s2 s3 s4 r4 b3 b4 bb
          go_wp2_with (at_builtin; refine wpList_append_run rfl rfl HR.out ?_)
          go_ret
          refine ⟨_, rfl, ?_, HS.out.2⟩
          rw [HE.out, List.length_append, HNh.out]
          exact HS.out.1.mono B1.out.size
  | none =>
    have hv : intV s = .tuple #[.int .i64 0, .bool false] := by unfold intV; rw [hn]
    rw [hv] at HI
    have hsl := size_list s
    by_cases hsh : s.size < 128
    · have hh := headL_short hn hsh
      rw [hhd] at hh
      have hd128 : decide ((s.size : Int) < 128) = true := by simp; omega
      have hcells : (#[.int .u8 (s.size : Int)] : Array Value).toList = [UInt8.ofNat s.size].map u8v := by
        simp only [List.map_cons, List.map_nil, u8v_of]
        rw [Int.emod_eq_of_lt (by omega) (by omega)]
      have HMk := Lib.hid (fun w => made_bytes (w := w) [UInt8.ofNat s.size] _ hcells (n := 1) rfl (by omega))
      have hnl : nh = 1 + s.size := by rw [← hnh, hh, List.length_cons, hsl]; omega
      have HBk := Lib.hid (fun w => back_any (1 + s.size) (by omega) w)
      have HH := Lib.hid (show hd = [UInt8.ofNat s.size] ++ s.data.toList from hh)
      have HBl := Lib.hid (backL_length (1 + s.size) (by omega))
      subst hnl
      clear hh hcells hv hhd hn hnh hsl
      go_enter Tryd.func44, Tryd.ntmps44
      go_wp2_with fail
      refine HI.out.mono ?_
      rintro e w1 ⟨rfl, b1⟩
      have B1 := Lib.hid b1
      obtain ⟨v2, w2, r2, s2, b2⟩ := append_bytes_str (HMk.out w1) (by simp) (by omega) s (by omega)
      have HR2 := Lib.hid r2
      obtain ⟨a2, c2, rfl, _⟩ := s2.arg
      have S2 := Lib.hid s2
      have B2 := Lib.hid (show Below w1.heap.size w1 w2 from ((Below.refl _ _).alloc (Nat.le_refl _) _).trans b2)
      clear b1 r2 s2 b2
      go_wp2_with (at_builtin; refine wpList_append_run rfl rfl HR2.out ?_)
      refine (HBk.out _).mono ?_
      rintro e w3 ⟨v3, rfl, s3, b3⟩
      have s2 := S2.out.below b3
      rw [← HH.out] at s2
      have bb : Below w1.heap.size w1 w3 := B2.out.trans (b3.mono B2.out.size)
      obtain ⟨v4, w4, r4, s4, b4⟩ := append_bytes2 s2 bb.size s3 (by have := HBl.out; omega) (by have := HBl.out; omega)
      have HR := Lib.hid r4
      have HS := Lib.hid (And.intro s4 ((B1.out).trans ((bb.trans b4).mono B1.out.size)))
      clear s2 s3 s4 r4 b3 b4 bb
      go_wp2_with (at_builtin; refine wpList_append_run rfl rfl HR.out ?_)
      go_ret
      refine ⟨_, rfl, ?_, HS.out.2⟩
      rw [HE.out, List.length_append, HNh.out]
      exact HS.out.1.mono B1.out.size
    · have hh := headL_long hn (by omega)
      rw [hhd] at hh
      have hd128 : decide ((s.size : Int) < 128) = false := by simp; omega
      have hcells : (#[.int .u8 128, .int .u8 ((s.size : Int) % 256), .int .u8 ((s.size : Int) / 256 % 256), .int .u8 ((s.size : Int) / 65536 % 256)] : Array Value).toList = (128 :: leN 3 s.size).map u8v := by
        simp only [leN, List.map_cons, List.map_nil, u8v_of, Nat.div_div_eq_div_mul]
        rfl
      have HMk := Lib.hid (fun w => made_bytes (w := w) (128 :: leN 3 s.size) _ hcells (n := 4) (by simp) (by omega))
      have hnl : nh = 4 + s.size := by rw [← hnh, hh, List.length_cons, List.length_append, leN_length, hsl]; omega
      have HBk := Lib.hid (fun w => back_any (4 + s.size) (by omega) w)
      have HH := Lib.hid (show hd = (128 :: leN 3 s.size) ++ s.data.toList from hh)
      have HBl := Lib.hid (backL_length (4 + s.size) (by omega))
      subst hnl
      clear hh hcells hv hhd hn hnh hsl
      go_enter Tryd.func44, Tryd.ntmps44
      go_wp2_with fail
      refine HI.out.mono ?_
      rintro e w1 ⟨rfl, b1⟩
      have B1 := Lib.hid b1
      obtain ⟨v2, w2, r2, s2, b2⟩ := append_bytes_str (HMk.out w1) (by simp) (by omega) s (by omega)
      have HR2 := Lib.hid r2
      obtain ⟨a2, c2, rfl, _⟩ := s2.arg
      have S2 := Lib.hid s2
      have B2 := Lib.hid (show Below w1.heap.size w1 w2 from ((Below.refl _ _).alloc (Nat.le_refl _) _).trans b2)
      clear b1 r2 s2 b2
      go_wp2_with (at_builtin; refine wpList_append_run rfl rfl HR2.out ?_)
      refine (HBk.out _).mono ?_
      rintro e w3 ⟨v3, rfl, s3, b3⟩
      have s2 := S2.out.below b3
      rw [← HH.out] at s2
      have bb : Below w1.heap.size w1 w3 := B2.out.trans (b3.mono B2.out.size)
      obtain ⟨v4, w4, r4, s4, b4⟩ := append_bytes2 s2 bb.size s3 (by have := HBl.out; omega) (by have := HBl.out; omega)
      have HR := Lib.hid r4
      have HS := Lib.hid (And.intro s4 ((B1.out).trans ((bb.trans b4).mono B1.out.size)))
      clear s2 s3 s4 r4 b3 b4 bb
      go_wp2_with (at_builtin; refine wpList_append_run rfl rfl HR.out ?_)
      go_ret
      refine ⟨_, rfl, ?_, HS.out.2⟩
      rw [HE.out, List.length_append, HNh.out]
      exact HS.out.1.mono B1.out.size
end Go.Proofs.YtcoepekoacpgnaaDoor
