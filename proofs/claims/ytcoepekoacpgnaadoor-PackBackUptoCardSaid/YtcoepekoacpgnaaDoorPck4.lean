/- octets.Append; pack.back. -/
import Derived.Test.YtcoepekoacpgnaaDoorPck2
import Derived.Test.YtcoepekoacpgnaaDoorPck3
import Derived.Laws.BitsAllLaws
import Derived.Laws.Bits128
import Derived.Deep.Cut
namespace Go.Proofs.YtcoepekoacpgnaaDoor
set_option linter.unusedVariables false
set_option linter.unusedSimpArgs false
open Go.RowKit
theorem i64_and_nat (a b : Nat) (ha : a < 9223372036854775808) (hb : b < 9223372036854775808) : bits .and .i64 (a : Int) (b : Int) = ((a &&& b : Nat) : Int) := by
  have hx : a &&& b < 2 ^ 63 := Nat.and_lt_two_pow _ (by omega)
  show IntKind.i64.wrap ((BitVec.ofInt 64 (a : Int) &&& BitVec.ofInt 64 (b : Int)).toNat : Int) = _
  rw [BitVec.toNat_and, ofInt_u64 a (by omega), ofInt_u64 b (by omega), IntWalk.i64_in _ ⟨by omega, by omega⟩]
theorem i64_or_nat (a b : Nat) (ha : a < 9223372036854775808) (hb : b < 9223372036854775808) : bits .or .i64 (a : Int) (b : Int) = ((a ||| b : Nat) : Int) := by
  have hx : a ||| b < 2 ^ 63 := Nat.or_lt_two_pow (by omega) (by omega)
  show IntKind.i64.wrap ((BitVec.ofInt 64 (a : Int) ||| BitVec.ofInt 64 (b : Int)).toNat : Int) = _
  rw [BitVec.toNat_or, ofInt_u64 a (by omega), ofInt_u64 b (by omega), IntWalk.i64_in _ ⟨by omega, by omega⟩]
set_option maxHeartbeats 800000 in
set_option maxRecDepth 100000 in
theorem octAppend {w : World} {B : Nat} {v : Value} {xs : List UInt8} (h : SliceIs w B 5 v xs.length (xs.map u8v)) (hB : B ≤ w.heap.size) (n k : Nat) (hn : n < 18446744073709551616) (hk : k ≤ 8) (hx : xs.length ≤ 900000000) :
    Calls Tryd.prog 79 #[v, .int .u64 n, .int .i64 k] w fun e w' => ∃ v', e = .returned v' ∧ SliceIs w' B 5 v' (xs ++ leN k n).length ((xs ++ leN k n).map u8v) ∧ Below B w w' := by
  have HI := Lib.hid h
  clear h
  go_enter Tryd.func79, Tryd.ntmps79
  go_wp2_with fail
  go_loopw [0, 1, 8] (fun l m i wr => ∃ j : Nat, j ≤ k ∧ i = .int .i64 j ∧ m = .int .u64 ((n / 256 ^ j : Nat) : Int) ∧ Hid (SliceIs wr B 5 l (xs ++ leN j n).length ((xs ++ leN j n).map u8v) ∧ Below B w wr)) (fun _ _ i _ => k - (intOf i).toNat)
  case atStart => exact ⟨0, Nat.zero_le _, rfl, by simp, Lib.hid ⟨by simpa [leN] using HI.out, Below.refl _ _⟩⟩
  case round =>
    obtain ⟨j, hj, rfl, rfl, hI⟩ := hrel
    by_cases hlt : j < k
    · obtain ⟨v2, w2, r2, s2, b2⟩ := append8 hI.out.1 (Nat.le_trans hB hI.out.2.size) (UInt8.ofNat (n / 256 ^ j)) (by simp; omega)
      rw [show (xs ++ leN j n).length + 1 = (xs ++ leN (j + 1) n).length by simp; omega, List.append_assoc, ← leN_snoc] at s2
      have HNw := Lib.hid (And.intro s2 (hI.out.2.trans b2))
      rw [u8v_of] at r2
      have HR2 := Lib.hid r2
      have hdiv : n / 256 ^ (j + 1) = n / 256 ^ j / 256 := by rw [Nat.pow_succ, Nat.div_div_eq_div_mul]
      have hle : n / 256 ^ j < 18446744073709551616 := Nat.lt_of_le_of_lt (Nat.div_le_self _ _) hn
      have HD := Lib.hid hdiv
      clear s2 b2 r2 hdiv hI
      generalize n / 256 ^ j = q at *
      go_wp2_with (at_builtin; refine wpList_append_run rfl rfl HR2.out ?_)
      go_roundw
      case rel => exact ⟨j + 1, by omega, by go_num, by rw [HD.out]; go_num, HNw⟩
      case measure => simp [intOf]; omega
    · have : j = k := by omega
      subst this
      go_wp2_with fail
      go_ret
      exact ⟨_, rfl, hI.out⟩
theorem or128 (c : Nat) (h : c < 128) : bits .or .u8 (c : Int) 128 = ((128 + c : Nat) : Int) := by
  have := u8_or_nat c 128 (by omega) (by omega)
  rw [show ((128 : Nat) : Int) = 128 from rfl] at this
  rw [this]
  have h2 := Nat.shiftLeft_add_eq_or_of_lt (i := 7) (b := c) (by omega) 1
  rw [Nat.shiftLeft_eq, Nat.one_mul] at h2
  rw [Nat.or_comm, ← h2]
theorem grp_lt (n j : Nat) : n / 128 ^ j % 128 < 128 := Nat.mod_lt _ (by omega)
set_option maxHeartbeats 1600000 in
set_option maxRecDepth 100000 in
theorem back_any (n : Nat) (hn : n < 34359738368) (w : World) :
    Calls Tryd.prog 45 #[.int .i64 n] w fun e w' => ∃ v', e = .returned v' ∧ SliceIs w' w.heap.size 5 v' (backL n).length ((backL n).map u8v) ∧ Below w.heap.size w w' := by
  have hand : bits .and .i64 (n : Int) 127 = ((n % 128 : Nat) : Int) := by rw [i64_and127]; omega
  have h256 : ((n % 128 : Nat) : Int) % 256 = ((n % 128 : Nat) : Int) := by omega
  have hfirst : SliceIs (w.alloc (.cells #[u8v (UInt8.ofNat (n % 128))] 5)) w.heap.size 5 (.slice (some ⟨w.heap.size, 0, none⟩) 1 1) 1 ([UInt8.ofNat (n % 128)].map u8v) :=
    ⟨rfl, .inr ⟨w.heap.size, 1, _, rfl, Nat.le_refl _, .of (heap_new _ _), rfl, Nat.le_refl _, by unfold maxLen; omega, rfl⟩⟩
  rw [show u8v (UInt8.ofNat (n % 128)) = .int .u8 ((n % 128 : Nat) : Int) by rw [u8v_of]; congr 1] at hfirst
  have HF := Lib.hid hfirst
  have HN := Lib.hid hn
  clear hfirst hn
  go_enter Tryd.func45, Tryd.ntmps45
  go_wp2_with fail
  go_loopw [0, 3] (fun i l wr => ∃ j : Nat, j < 5 ∧ i = .int .i64 ((n / 128 ^ (j + 1) : Nat) : Int) ∧ (j = 0 ∨ 128 ^ j ≤ n) ∧ Hid (SliceIs wr w.heap.size 5 l (j + 1) ((UInt8.ofNat (n / 128 ^ j % 128) :: flB j n).map u8v) ∧ Below w.heap.size w wr)) (fun i _ _ => (intOf i).toNat)
  case atStart =>
    refine ⟨0, by omega, by simp, .inl rfl, Lib.hid ⟨?_, (Below.refl _ _).alloc (Nat.le_refl _) _⟩⟩
    simpa [flB] using HF.out
  case round =>
    obtain ⟨j, hj, rfl, hge, hI⟩ := hrel
    obtain ⟨hI1, hI2⟩ := hI.out
    obtain ⟨g, cap, cur, rfl, hg, hrow, hcs, hnc, hcm, htk⟩ := hI1.2.resolve_left (by simp)
    have HN' := HN.out
    by_cases h0 : n / 128 ^ (j + 1) = 0
    · have hlt : n < 128 ^ (j + 1) := by
        have hp : 0 < 128 ^ (j + 1) := Nat.pow_pos (by omega)
        exact (Nat.div_eq_zero_iff_lt hp).1 h0
      have hb : UInt8.ofNat (n / 128 ^ j % 128) :: flB j n = backL n := by
        rw [backL_eq hlt hge hj, Nat.mod_eq_of_lt]
        rw [Nat.pow_succ] at hlt
        exact Nat.div_lt_of_lt_mul hlt
      have hle : (backL n).length = j + 1 := by rw [← hb]; simp
      rw [h0]
      have HE := Lib.hid (And.intro hI1 hI2)
      rw [hb, ← hle] at HE
      clear hrow htk hI1 hI2 hI hb
      go_wp2_with fail
      go_ret
      refine ⟨_, rfl, ?_⟩
      have := HE.out
      rw [hle] at this ⊢
      exact this
    · have hp : 0 < 128 ^ (j + 1) := Nat.pow_pos (by omega)
      have hle : 128 ^ (j + 1) ≤ n := by
        rcases Nat.lt_or_ge n (128 ^ (j + 1)) with h | h
        · exact absurd (Nat.div_eq_of_lt h) h0
        · exact h
      have hj5 : j + 1 < 5 := by
        rcases Nat.lt_or_ge (j + 1) 5 with h | h
        · exact h
        · have := Nat.pow_le_pow_right (n := 128) (by omega) h
          omega
      obtain ⟨q, hq⟩ : ∃ q, n / 128 ^ (j + 1) = q := ⟨_, rfl⟩
      obtain ⟨x, hx⟩ : ∃ x, n / 128 ^ j % 128 = x := ⟨_, rfl⟩
      obtain ⟨r, hr⟩ : ∃ r, q % 128 = r := ⟨_, rfl⟩
      obtain ⟨y, hy⟩ : ∃ y, 128 + x = y := ⟨_, rfl⟩
      have hx1 : x < 128 := by rw [← hx]; exact grp_lt n j
      have hr1 : r < 128 := by rw [← hr]; exact Nat.mod_lt _ (by omega)
      rw [hx] at htk
      have htk' : cur.toList.take (j + 1) = u8v (UInt8.ofNat x) :: (flB j n).map u8v := by rw [htk]; rfl
      have hc0 : cur[0]? = some (.int .u8 (x : Int)) := by
        have e := congrArg (fun l => l[0]?) htk'
        simp only [List.getElem?_take_of_lt (show 0 < j + 1 by omega), Array.getElem?_toList, List.getElem?_cons_zero] at e
        rw [e, u8v_of]; congr 2; omega
      have cell0 := hrow.cell hc0
      have fr0 := hrow.free (i := 0) (by omega)
      have hor := or128 x hx1
      rw [hy] at hor
      have hcur' : (cur.setIfInBounds 0 (.int .u8 (y : Int))).toList.take (j + 1) = (flB (j + 1) n).map u8v := by
        rw [Array.toList_setIfInBounds, List.take_set, htk', flB, List.map_cons, hx, hy, u8v_of y, List.set_cons_zero]
        congr 2; omega
      obtain ⟨w1, hw1⟩ : ∃ w1, w1 = wr.setCell ⟨g, 0, none⟩ (.int .u8 (y : Int)) := ⟨_, rfl⟩
      have hrow1 : RowAt w1 g 5 (cur.setIfInBounds 0 (.int .u8 (y : Int))) := by rw [hw1, hrow.setCell]; exact hrow.setRow (by simp)
      have hb1 : Below w.heap.size w w1 := by rw [hw1]; exact hI2.setCell hg _
      have hs1 : SliceIs w1 w.heap.size 5 (.slice (some ⟨g, 0, none⟩) (j + 1) cap) (j + 1) ((flB (j + 1) n).map u8v) :=
        ⟨by simp, .inr ⟨g, cap, _, rfl, hg, hrow1, by simpa using hcs, hnc, hcm, hcur'⟩⟩
      obtain ⟨w2, hw2⟩ : ∃ w2, w2 = w1.alloc (.cells #[.int .u8 (r : Int)] 5) := ⟨_, rfl⟩
      have hb2 : Below w1.heap.size w1 w2 := by rw [hw2]; exact (Below.refl _ _).alloc (Nat.le_refl _) _
      have hru : u8v (UInt8.ofNat r) = .int .u8 (r : Int) := by rw [u8v_of]; congr 1; omega
      have hfr : SliceIs w2 w1.heap.size 5 (.slice (some ⟨w1.heap.size, 0, none⟩) 1 1) 1 ([UInt8.ofNat r].map u8v) :=
        ⟨rfl, .inr ⟨w1.heap.size, 1, _, rfl, Nat.le_refl _, .of (by rw [hw2]; exact heap_new _ _), rfl, Nat.le_refl _, by unfold maxLen; omega, by simp [hru]⟩⟩
      have hs2 := hs1.below hb2
      obtain ⟨i0, g1, g2, g3, g4⟩ := info_parts info_u8
      obtain ⟨a', c', he', harg⟩ := hs2.arg
      cases he'
      obtain ⟨v', w3, hr3, hs3, hb3⟩ := run_append_local (P := Tryd.prog) (t := 67) (ty := 67) Tryd.underlying67 g1 g2 g3 g4 rfl hfr hb2.size ⟨g, 0, none⟩ (j + 1) cap ((flB (j + 1) n).map u8v) (by omega) (by simp) (fun i u hu => by
        obtain ⟨hlt, hu'⟩ := List.getElem?_eq_some_iff.1 hu
        obtain ⟨b, o, hbo, hcell⟩ := harg.2.resolve_left (by omega)
        cases hbo
        have hlt' : i < j + 1 := by simpa using hlt
        have := hcell i hlt'
        rw [Addr.add_lit, this]
        congr 1
        simp only [List.getD, hu, Option.getD_some]) (by simp; intro x _; rfl) (by unfold maxLen; omega) (by omega)
      have hstep : UInt8.ofNat (n / 128 ^ (j + 1) % 128) :: flB (j + 1) n = [UInt8.ofNat r] ++ flB (j + 1) n := by rw [hq, hr]; rfl
      rw [← List.map_append, ← hstep, show 1 + (j + 1) = j + 1 + 1 by omega] at hs3
      have hB3 : Below w.heap.size w w3 := hb1.trans ((hb2.trans hb3).mono hb1.size)
      have hand2 : bits .and .i64 (q : Int) 127 = (r : Int) := by rw [i64_and127]; omega
      have h256b : (r : Int) % 256 = r := by omega
      have hqb : q < 34359738368 := by rw [← hq]; exact Nat.lt_of_le_of_lt (Nat.div_le_self _ _) HN.out
      have hdiv : n / 128 ^ (j + 1 + 1) = q / 128 := by rw [Nat.pow_succ, ← Nat.div_div_eq_div_mul, hq]
      have hq0 : 0 < q := by omega
      have HR3 := Lib.hid hr3
      have HS3 := Lib.hid (And.intro (hs3.mono hb1.size) hB3)
      have HW1 := Lib.hid hw1
      have HW2 := Lib.hid hw2
      have HD := Lib.hid (And.intro hdiv (And.intro hle (And.intro hq hstep)))
      rw [hq]
      clear hr3 hs3 hB3 hw1 hw2 hdiv hle hq hstep hI hI1 hI2 hrow hcs hcm htk htk' hc0 hcur' hrow1 hb1 hs1 hb2 hru hfr hs2 harg g1 g2 g3 g4 hand h256 hp h0 HF HN'
      go_upto_region 6 with (fail)
      rw [← HW1.out]
      clear cell0 fr0 hor
      go_wp2_with (at_builtin; rw [← HW2.out]; refine wpList_append_run rfl rfl HR3.out ?_)
      go_roundw
      case rel => exact ⟨j + 1, hj5, by rw [HD.out.1]; go_num, .inr HD.out.2.1, HS3⟩
      case measure => simp [intOf]; omega
end Go.Proofs.YtcoepekoacpgnaaDoor
