/- The row of the law ListRemoves, and its card: for every input of at most 1048576 values and letters the Go function returns true and its arguments read as before, out of the walk listRemoves_walk. The library's variables that the row lists hold what the program's text lays (the card's tie, given). -/
import Derived.Test.YtlecnlnpgghmbaaDoorMQ3
import Derived.Test.YtlecnlnpgghmbaaDoorRows
import Derived.Test.YtlecnlnpgghmbaaDoorMQ1
import Derived.Stop.LaidErr
import Derived.Lib.LaidTab
import Derived.LaidLaws
import Derived.Test.YtlecnlnpgghmbaaDoorCards
import Derived.Test.YtlecnlnpgghmbaaDoorTie
import Derived.WalkKit
import Derived.ProofKit
import Derived.OpenShut
import Derived.ShutString
import Derived.ChangeOld
import Derived.Below
import Derived.SizedLaws
import Derived.Laws.Cover2
import Derived.Lib.SmallJoins
import Derived.Deep.Slices
import Derived.Deep.SlicePairs
import Derived.SliceStrings
import Derived.JoinedCond
import Derived.Deep.DeepHandedRow
/- The law ListTrims: the walk. -/
namespace Go.Proofs.YtlecnlnpgghmbaaDoor
set_option linter.unusedVariables false
set_option linter.unusedSimpArgs false
open Go.RowKit
theorem i64_wf {x : Int} (h : (Lit.int .i64 x).wf = true) : -9223372036854775808 ≤ x ∧ x ≤ 9223372036854775807 := by
  simpa [Lit.wf, IntKind.min, IntKind.max, IntKind.signed, IntKind.bits] using h
theorem fitsT_all {zs : List ByteArray} (h : fitsT zs = true) : ∀ s ∈ zs, s.size ≤ 65536 := of_decide_eq_true h
theorem ListF.small {w : World} {l : Nat} {F : Nat → Prop} {L : List ByteArray} {sm : Bool} (h : ListF w l F L sm) : Calls Tryd.prog 14 #[pv l] w fun e w' => e = .returned (.bool sm) ∧ Below w.heap.size w w' := by
  obtain ⟨v, Fr, h⟩ := h
  exact smallL h
theorem ListF.len {w : World} {l : Nat} {F : Nat → Prop} {L : List ByteArray} {sm : Bool} (h : ListF w l F L sm) : Calls Tryd.prog 12 #[pv l] w fun e w' => e = .returned (.int .i64 L.length) ∧ w = w' := by
  obtain ⟨v, Fr, h⟩ := h
  exact lenL h
theorem rngL_le (L : List ByteArray) (a b : Int) : (rngL L a b).length ≤ L.length := rangeT_length L _ _
theorem ArgRow.chgT {w w' : World} {a : Option Addr} {n c : Nat} {f : Nat → Value} {S : Nat → Prop} (h : ArgRow w a n c f) (hc : Chg S w w') (hn : ∀ k, (∃ b o, a = some ⟨b, o, none⟩ ∧ k = b) → ¬ S k) : ArgRow w' a n c f := by
  refine ⟨h.1, h.2.imp id ?_⟩
  rintro ⟨b, o, e, hf⟩
  refine ⟨b, o, e, fun i hi => ?_⟩
  have h1 := hf i hi
  have hlt : b < w.heap.size := World.block_lt_of_cell? w _ h1
  have := hc.block b hlt (hn b ⟨b, o, e, rfl⟩)
  rw [← h1]
  simp only [World.cell?, this]
set_option maxHeartbeats 6400000 in
set_option maxRecDepth 100000 in
theorem listTrims_all {w : World} (hl : Laid w) (a : Option Addr) (n ca : Nat) (zs : List ByteArray) (f t : Int) (ha : zs.length = n ∧ ArgRow w a n ca fun i => .string (zs.getD i ByteArray.empty)) (ta : totalT zs ≤ 1048576)
    (hf : -9223372036854775808 ≤ f ∧ f ≤ 9223372036854775807) (ht : -9223372036854775808 ≤ t ∧ t ≤ 9223372036854775807) :
    Calls Tryd.prog 6 #[.slice a n ca, .int .i64 f, .int .i64 t] w fun e w' => e = .returned (.bool true) ∧ Below w.heap.size w w' := by
  have HAl := Lib.hid (fun w' (hb : Below w.heap.size w w') => alive12_any (hl.below hb))
  have HA := Lib.hid (fun w' (hbe : Below w.heap.size w w') => show ArgRow w' a n ca fun i => .string (zs.getD i ByteArray.empty) from ha.2.belowT hbe)
  have HLd := Lib.hid (fun w' (hbe : Below w.heap.size w w') => hl.below hbe)
  have HL := Lib.hid hl
  have hac := ha.2.1
  have HLn := Lib.hid ha.1
  have HTot := Lib.hid ta
  clear ta hl ha
  cases hm : (fitsT zs && decide (n ≤ 400)) with
  | false =>
    have HM := Lib.hid (fun w' (hb : Below w.heap.size w w') => may12_any w' a n ca zs HLn.out (HA.out w' hb) HTot.out)
    rw [hm] at HM
    clear hm
    go_enter Tryd.func6, Tryd.ntmps6
    go_wp2_with fail
    refine (HAl.out _ (Below.refl _ _)).mono ?_
    rintro e w1 ⟨rfl, b1⟩
    have B1 := Lib.hid b1
    clear b1
    go_wp2_with fail
    refine (HM.out _ B1.out).mono ?_
    rintro e w2 ⟨rfl, b2⟩
    have B2 := Lib.hid (B1.out.trans (b2.mono B1.out.size))
    clear b2
    go_wp2_with fail
    refine (HAl.out _ B2.out).mono ?_
    rintro e w3 ⟨rfl, b3⟩
    have B3 := Lib.hid (B2.out.trans (b3.mono B2.out.size))
    clear b3
    go_wp2_with fail
    go_ret
    exact ⟨rfl, B3.out⟩
  | true =>
    have HM := Lib.hid (fun w' (hb : Below w.heap.size w w') => may12_any w' a n ca zs HLn.out (HA.out w' hb) HTot.out)
    rw [hm] at HM
    simp only [Bool.and_eq_true, decide_eq_true_eq] at hm
    have hn4 : n ≤ 400 := hm.2
    have HZ := Lib.hid (fitsT_all hm.1)
    clear hm
    go_enter Tryd.func6, Tryd.ntmps6
    go_wp2_with fail
    refine (HAl.out _ (Below.refl _ _)).mono ?_
    rintro e w1 ⟨rfl, b1⟩
    have B1 := Lib.hid b1
    clear b1
    go_wp2_with fail
    refine (HM.out _ B1.out).mono ?_
    rintro e w2 ⟨rfl, b2⟩
    have B2 := Lib.hid (B1.out.trans (b2.mono B1.out.size))
    have HO := Lib.hid (ofL (HLd.out _ B2.out) a n ca zs HLn.out (HA.out _ B2.out) HZ.out (by omega))
    clear b2
    go_wp2_with fail
    refine HO.out.mono ?_
    rintro e w3 ⟨⟨l, F, rfl, q3, k3⟩, b3⟩
    have hb3 : Below w.heap.size w w3 := B2.out.trans (b3.mono B2.out.size)
    have HK := Lib.hid (show ∀ k, F k → w.heap.size ≤ k from fun k hk => Nat.le_trans B2.out.size (k3 k hk))
    have HR3 := Lib.hid (rangeL (HLd.out _ hb3) q3 0 (-1) (by omega) (by omega))
    rw [rngL_all] at HR3
    have HQ3 := Lib.hid (And.intro q3 hb3)
    clear q3 k3 b3 hb3 HO
    go_wp2_with fail
    refine HR3.out.mono ?_
    rintro e w4 ⟨⟨v4, rfl, s4⟩, b4⟩
    obtain ⟨a4, c4, rfl, har4⟩ := texts_of_slice s4
    have hb4 : Below w.heap.size w w4 := HQ3.out.2.trans (b4.mono HQ3.out.2.size)
    have HS4 := Lib.hid (sameTexts_any w4 a4 a zs.length n c4 ca zs zs rfl HLn.out har4 (HA.out _ hb4) (by have := HLn.out; omega))
    rw [decide_eq_true rfl] at HS4
    have HQ4 := Lib.hid (And.intro (HQ3.out.1.below b4) hb4)
    clear s4 har4 b4 hb4 HR3
    go_wp2_with fail
    refine HS4.out.mono ?_
    rintro e w5 ⟨rfl, d5, hw5⟩
    have hd5 : Below w4.heap.size w4 w5 := by rw [hw5]; exact belowN (Below.refl _ _) _
    have hb5 : Below w.heap.size w w5 := HQ4.out.2.trans (hd5.mono HQ4.out.2.size)
    have q5 := HQ4.out.1.below hd5
    have HR5 := Lib.hid (rangeL (HLd.out _ hb5) q5 f t hf ht)
    have HQ5 := Lib.hid (And.intro q5 hb5)
    clear hw5 hd5 hb5 q5 HS4
    go_wp2_with fail
    refine HR5.out.mono ?_
    rintro e w6 ⟨⟨v6, rfl, s6⟩, b6⟩
    obtain ⟨a6, c6, rfl, har6⟩ := texts_of_slice s6
    have hvb : ∀ k, (∃ b o, a6 = some ⟨b, o, none⟩ ∧ k = b) → ¬ F k := by
      rintro k ⟨b, o, e, rfl⟩ hk
      subst e
      have h1 := (s6.block_lt (k := k) rfl).1
      have h2 := HQ5.out.1.lt hk
      omega
    have hb6 : Below w.heap.size w w6 := HQ5.out.2.trans (b6.mono HQ5.out.2.size)
    have q6 := HQ5.out.1.below b6
    have HS6 := Lib.hid q6.small
    have HQ6 := Lib.hid (And.intro q6 (And.intro hb6 (And.intro har6 hvb)))
    clear s6 har6 b6 hvb hb6 q6 HR5
    go_wp2_with fail
    refine HS6.out.mono ?_
    rintro e w7 ⟨rfl, b7⟩
    have hb7 : Below w.heap.size w w7 := HQ6.out.2.1.trans (b7.mono HQ6.out.2.1.size)
    have q7 := HQ6.out.1.below b7
    have HT7 := Lib.hid (trimL HL.out hb7 hb7.size q7 HK.out f t hf ht)
    have HQ7 := Lib.hid (And.intro q7 (And.intro hb7 (HQ6.out.2.2.1.belowT b7)))
    clear b7 hb7 q7 HS6
    go_wp2_with fail
    refine HT7.out.mono ?_
    rintro e w8 ⟨⟨vv, rfl⟩, ⟨F8, q8, f8⟩, c8⟩
    have hb8 : Below w.heap.size w w8 := belowChg HQ7.out.2.1 c8 HQ7.out.2.1.size fun k hk _ => HK.out k hk
    have har8 := HQ7.out.2.2.chgT c8 HQ6.out.2.2.2
    have HR8 := Lib.hid (rangeL (HLd.out _ hb8) q8 0 (-1) (by omega) (by omega))
    rw [rngL_all] at HR8
    have HQ8 := Lib.hid (And.intro q8 (And.intro hb8 har8))
    clear q8 f8 c8 hb8 har8 HT7
    have hrl := rngL_le zs f t
    have HLz := Lib.hid HLn.out
    rw [HLn.out] at hrl
    obtain ⟨R, hR⟩ : ∃ R, R = rngL zs f t := ⟨_, rfl⟩
    rw [← hR] at HR8 HQ8 hrl ⊢
    obtain ⟨m, hm⟩ : ∃ m, m = R.length := ⟨_, rfl⟩
    rw [← hm] at HR8 HQ8 hrl ⊢
    have HRm := Lib.hid hm
    clear hR hm
    go_wp2_with fail
    refine HR8.out.mono ?_
    rintro e w9 ⟨⟨v9, rfl, s9⟩, b9⟩
    rw [HRm.out] at s9
    obtain ⟨a9, c9, rfl, har9⟩ := texts_of_slice s9
    rw [← HRm.out] at har9
    have hb9 : Below w.heap.size w w9 := HQ8.out.2.1.trans (b9.mono HQ8.out.2.1.size)
    have HS9 := Lib.hid (sameTexts_any w9 a9 a6 m m c9 c6 R R HRm.out.symm HRm.out.symm har9 (HQ8.out.2.2.belowT b9) (by omega))
    rw [decide_eq_true rfl] at HS9
    have HQ9 := Lib.hid (And.intro (HQ8.out.1.below b9) hb9)
    rw [← HRm.out]
    clear s9 har9 b9 hb9 HR8
    go_wp2_with fail
    refine HS9.out.mono ?_
    rintro e w10 ⟨rfl, d10, hw10⟩
    have hd10 : Below w9.heap.size w9 w10 := by rw [hw10]; exact belowN (Below.refl _ _) _
    have q10 := HQ9.out.1.below hd10
    have HL10 := Lib.hid q10.len
    rw [← HRm.out] at HL10
    have HS10 := Lib.hid q10.small
    have HB10 := Lib.hid (HQ9.out.2.trans (hd10.mono HQ9.out.2.size))
    clear hw10 hd10 q10 HS9
    go_wp2_with fail
    refine HL10.out.mono ?_
    rintro e w' ⟨rfl, rfl⟩
    go_wp2_with fail
    refine HS10.out.mono ?_
    rintro e w11 ⟨rfl, b11⟩
    have HB11 := Lib.hid (HB10.out.trans (b11.mono HB10.out.size))
    clear b11
    go_wp2_with fail
    go_ret
    exact ⟨rfl, HB11.out⟩
theorem listTrims_walk {w : World} (hl : Laid w) (a : Option Addr) (n ca : Nat) (zs : List ByteArray) (f t : Int) (ha : zs.length = n ∧ ArgRow w a n ca fun i => .string (zs.getD i ByteArray.empty)) (ta : totalT zs ≤ 1048576)
    (hf : (Lit.int .i64 f).wf = true) (ht : (Lit.int .i64 t).wf = true) :
    Calls Tryd.prog 6 #[.slice a n ca, .int .i64 f, .int .i64 t] w fun e w' => e = .returned (.bool true) ∧ Below w.heap.size w w' :=
  listTrims_all hl a n ca zs f t ha ta (i64_wf hf) (i64_wf ht)
end Go.Proofs.YtlecnlnpgghmbaaDoor

/- The law ListRemoves: the walk. -/
namespace Go.Proofs.YtlecnlnpgghmbaaDoor
set_option linter.unusedVariables false
set_option linter.unusedSimpArgs false
open Go.RowKit
theorem remF_append (s : ByteArray) (lo hi : Nat) : ∀ (A B : List ByteArray) (q : Nat), ∃ q', remF s lo hi q (A ++ B) = remF s lo hi q A ++ remF s lo hi q' B
  | [], B, q => ⟨q, rfl⟩
  | y :: A, B, q => by
    rw [List.cons_append, remF, remF]
    by_cases hy : y = s
    · obtain ⟨q', h⟩ := remF_append s lo hi A B (q + 1)
      refine ⟨q', ?_⟩
      rw [if_pos hy, if_pos hy, h]
      split
      · rfl
      · rfl
    · obtain ⟨q', h⟩ := remF_append s lo hi A B q
      exact ⟨q', by rw [if_neg hy, if_neg hy, h]; rfl⟩
theorem remF_prefix (s : ByteArray) (lo hi : Nat) (zs : List ByteArray) (j : Nat) : ∃ R, remF s lo hi 0 zs = remF s lo hi 0 (zs.take j) ++ R := by
  obtain ⟨q, h⟩ := remF_append s lo hi (zs.take j) (zs.drop j) 0
  rw [List.take_append_drop] at h
  exact ⟨_, h⟩
theorem plcF_len_le (s : ByteArray) (zs : List ByteArray) (j : Nat) : (plcF s 0 (zs.take j)).length ≤ (plcF s 0 zs).length := by
  have key : ∀ (A B : List ByteArray) (k : Nat), (plcF s k A).length ≤ (plcF s k (A ++ B)).length := by
    intro A
    induction A with
    | nil => intro B k; simp [plcF]
    | cons y A ih =>
      intro B k
      rw [List.cons_append]
      unfold plcF
      have := ih B (k + 1)
      split <;> simp <;> omega
  have := key (zs.take j) (zs.drop j) 0
  rwa [List.take_append_drop] at this
/-- How many go, and which. -/
theorem rm_cases (m : Nat) (c : Int) : (0 ≤ c ∧ rmLo m c = 0 ∧ rmHi m c = (if c = 0 then m else min c.toNat m)) ∨ (c < 0 ∧ rmHi m c = m ∧ rmLo m c = m - min (-c).toNat m) := by
  unfold rmLo rmHi
  by_cases h : 0 ≤ c
  · refine .inl ⟨h, if_neg (by omega), ?_⟩
    by_cases h0 : c = 0
    · rw [if_neg (by omega), if_pos h0]
    · rw [if_neg h0]
      by_cases h1 : c < (m : Int)
      · rw [if_pos ⟨by omega, h1⟩]; omega
      · rw [if_neg (by omega)]; omega
  · refine .inr ⟨by omega, if_neg (by omega), ?_⟩
    by_cases h1 : -(m : Int) < c
    · rw [if_pos ⟨by omega, h1⟩]; omega
    · rw [if_neg (by omega)]; omega
set_option maxHeartbeats 12800000 in
set_option maxRecDepth 100000 in
theorem listRemoves_all {w : World} (hl : Laid w) (a : Option Addr) (n ca : Nat) (zs : List ByteArray) (s : ByteArray) (c : Int) (ha : zs.length = n ∧ ArgRow w a n ca fun i => .string (zs.getD i ByteArray.empty)) (ta : totalT zs ≤ 1048576) (hs : s.size ≤ 1048576) (hc : -128 ≤ c ∧ c ≤ 127) :
    Calls Tryd.prog 5 #[.slice a n ca, .string s, .int .i8 c] w fun e w' => e = .returned (.bool true) ∧ Below w.heap.size w w' := by
  have HAl := Lib.hid (fun w' (hb : Below w.heap.size w w') => alive12_any (hl.below hb))
  have HA := Lib.hid (fun w' (hbe : Below w.heap.size w w') => show ArgRow w' a n ca fun i => .string (zs.getD i ByteArray.empty) from ha.2.belowT hbe)
  have HLd := Lib.hid (fun w' (hbe : Below w.heap.size w w') => hl.below hbe)
  have HL := Lib.hid hl
  have hac := ha.2.1
  have HLn := Lib.hid ha.1
  have HTot := Lib.hid ta
  clear ta hl ha
  cases hm : (fitsT zs && decide (n ≤ 400)) with
  | false =>
    have HM := Lib.hid (fun w' (hb : Below w.heap.size w w') => may12_any w' a n ca zs HLn.out (HA.out w' hb) HTot.out)
    rw [hm] at HM
    clear hm
    go_enter Tryd.func5, Tryd.ntmps5
    go_wp2_with fail
    refine (HAl.out _ (Below.refl _ _)).mono ?_
    rintro e w1 ⟨rfl, b1⟩
    have B1 := Lib.hid b1
    clear b1
    go_wp2_with fail
    refine (HM.out _ B1.out).mono ?_
    rintro e w2 ⟨rfl, b2⟩
    have B2 := Lib.hid (B1.out.trans (b2.mono B1.out.size))
    clear b2
    go_wp2_with fail
    refine (HAl.out _ B2.out).mono ?_
    rintro e w3 ⟨rfl, b3⟩
    have B3 := Lib.hid (B2.out.trans (b3.mono B2.out.size))
    clear b3
    go_wp2_with fail
    go_ret
    exact ⟨rfl, B3.out⟩
  | true =>
    have HM := Lib.hid (fun w' (hb : Below w.heap.size w w') => may12_any w' a n ca zs HLn.out (HA.out w' hb) HTot.out)
    rw [hm] at HM
    simp only [Bool.and_eq_true, decide_eq_true_eq] at hm
    have hn4 : n ≤ 400 := hm.2
    have HZ := Lib.hid (fitsT_all hm.1)
    clear hm
    obtain ⟨m, hm⟩ : ∃ m, m = (plcF s 0 zs).length := ⟨_, rfl⟩
    have hmn : m ≤ n := by rw [hm]; have := plcF_len s zs 0; have := HLn.out; omega
    have HRc := Lib.hid (rm_cases m c)
    have HGl := Lib.hid (goneP_length zs c s)
    obtain ⟨W, hW⟩ : ∃ W, W = (goneP zs c s).length := ⟨_, rfl⟩
    obtain ⟨lo, hlo⟩ : ∃ lo, lo = rmLo m c := ⟨_, rfl⟩
    obtain ⟨hi, hhi⟩ : ∃ hi, hi = rmHi m c := ⟨_, rfl⟩
    rw [← hW, ← hm, ← hlo, ← hhi] at HGl
    rw [← hlo, ← hhi] at HRc
    have HRem := Lib.hid (show remL zs c s = remF s lo hi 0 zs by unfold remL; rw [← hm, ← hlo, ← hhi])
    have Hm := Lib.hid hm
    have HW := Lib.hid hW
    have hle := rm_le m c
    rw [← hlo, ← hhi] at hle
    clear hm hW hlo hhi
    go_enter Tryd.func5, Tryd.ntmps5
    go_wp2_with fail
    refine (HAl.out _ (Below.refl _ _)).mono ?_
    rintro e w1 ⟨rfl, b1⟩
    have B1 := Lib.hid b1
    clear b1
    go_wp2_with fail
    refine (HM.out _ B1.out).mono ?_
    rintro e w2 ⟨rfl, b2⟩
    obtain ⟨w3, hw3⟩ : ∃ w3, w3 = w2.alloc (.cells #[.int .i64 (s.size : Nat)] 3) := ⟨_, rfl⟩
    have hb3 : Below w2.heap.size w2 w3 := by rw [hw3]; exact (Below.refl _ _).alloc (Nat.le_refl _) _
    have HBe := Lib.hid (beyond_any w3 (some ⟨w2.heap.size, 0, none⟩) 1 1 [s.size] rfl ⟨Nat.le_refl _, .inr ⟨w2.heap.size, 0, rfl, fun i hi => by
      obtain rfl : i = 0 := by omega
      rw [hw3]; exact cell_in (heap_new _ _) rfl⟩⟩ (by simp; omega) (by omega))
    rw [show decide (1048576 < [s.size].sum) = false from decide_eq_false (by simp; omega)] at HBe
    have hb2 := B1.out.trans (b2.mono B1.out.size)
    have B3 := Lib.hid (hb2.trans (hb3.mono hb2.size))
    have HO := Lib.hid (ofL (HLd.out _ B3.out) a n ca zs HLn.out (HA.out _ B3.out) HZ.out (by omega))
    have HW3 := Lib.hid hw3
    clear b2 hb2 hb3 hw3
    go_wp2_with fail
    rw [← HW3.out]
    refine HBe.out.mono ?_
    rintro e w' ⟨rfl, rfl⟩
    go_wp2_with fail
    refine HO.out.mono ?_
    rintro e w4 ⟨⟨l, F, rfl, q4, k4⟩, b4⟩
    have hb4 : Below w.heap.size w w4 := B3.out.trans (b4.mono B3.out.size)
    have HK := Lib.hid (show ∀ k, F k → w.heap.size ≤ k from fun k hk => Nat.le_trans B3.out.size (k4 k hk))
    have HR := Lib.hid (removeL HL.out hb4 hb4.size q4 HK.out c (by omega) s)
    rw [← HW.out, HRem.out] at HR
    have HQ4 := Lib.hid (And.intro q4 hb4)
    have HA4 := Lib.hid (HA.out _ hb4)
    clear q4 k4 b4 hb4 HO HBe
    go_wp2_with fail
    go_loop [9, 10] (fun q i => ∃ k : Nat, k ≤ n ∧ i = .int .i64 k ∧ q = .int .i64 ((plcF s 0 (zs.take k)).length : Nat)) (fun _ i => n - (intOf i).toNat)
    case atStart => exact ⟨0, Nat.zero_le _, rfl, by simp [plcF]⟩
    case round =>
      obtain ⟨k, hk, rfl, rfl⟩ := hrel
      have hpk := plcF_len s (zs.take k) 0
      rw [List.length_take] at hpk
      by_cases hlt : k < n
      · obtain ⟨b, o, hb, hcl⟩ := HA4.out.2.resolve_left (by omega)
        subst hb
        have hkl : k < zs.length := by rw [HLn.out]; exact hlt
        have hcell : w4.cell? ⟨b, o + k, none⟩ = some (.string (zs.getD k ByteArray.empty)) := hcl k hlt
        have htk : zs.take (k + 1) = zs.take k ++ [zs.getD k ByteArray.empty] := by rw [List.take_succ_eq_append_getElem hkl]; simp [List.getD, hkl]
        have hsn := plcF_snoc s (zs.take k) 0 (zs.getD k ByteArray.empty)
        rw [← htk] at hsn
        clear hcl htk
        generalize zs.getD k ByteArray.empty = y at *
        by_cases hys : y = s
        · have hq : (y.toList == s.toList) = true := by rw [hys]; exact beq_self_eq_true _
          rw [if_pos hys] at hsn
          have HN := Lib.hid (show (plcF s 0 (zs.take (k + 1))).length = (plcF s 0 (zs.take k)).length + 1 by rw [hsn]; simp)
          clear hsn hys
          generalize (plcF s 0 (zs.take k)).length = q at *
          go_wp2_with fail
          go_round
          case rel => exact ⟨k + 1, by omega, by go_num, by rw [HN.out]; go_num⟩
          case measure => simp [intOf]; omega
        · have hq : (y.toList == s.toList) = false := by
            rw [beq_eq_false_iff_ne, ne_eq, ByteArray.toList_eq, ByteArray.toList_eq]
            exact fun e => hys (ByteArray.ext (Array.toList_inj.1 e))
          rw [if_neg hys] at hsn
          have HN := Lib.hid (show (plcF s 0 (zs.take (k + 1))).length = (plcF s 0 (zs.take k)).length by rw [hsn])
          clear hsn hys
          generalize (plcF s 0 (zs.take k)).length = q at *
          go_wp2_with fail
          go_round
          case rel => exact ⟨k + 1, by omega, by go_num, by rw [HN.out]⟩
          case measure => simp [intOf]; omega
      · obtain rfl : k = n := by omega
        rw [List.take_of_length_le (by rw [HLn.out]; exact Nat.le_refl _), ← Hm.out]
        clear hpk
        -- what is wanted
        have hcase : (c = 0 ∧ W = m ∧ lo = 0 ∧ hi = W) ∨ (0 < c ∧ min c (m : Int) = (W : Int) ∧ lo = 0 ∧ hi = W) ∨ (c < 0 ∧ min (-c) (m : Int) = (W : Int) ∧ lo = m - W ∧ hi = m ∧ W ≤ m) := by
          have h1 := HGl.out
          rcases HRc.out with ⟨h2, h3, h4⟩ | ⟨h2, h3, h4⟩
          · by_cases h0 : c = 0
            · rw [if_pos h0] at h4; exact .inl ⟨h0, by omega, h3, by omega⟩
            · rw [if_neg h0] at h4; exact .inr (.inl ⟨by omega, by omega, h3, by omega⟩)
          · exact .inr (.inr ⟨h2, by omega, by omega, h3, by omega⟩)
        rcases hcase with ⟨rfl, h2, h3, h4⟩ | ⟨h1, h2, h3, h4⟩ | ⟨h1, h2, h3, h4, h5⟩
        case' inl => obtain rfl := h2
        case' inr.inl =>
          have d0 : (c != 0) = true := by rw [bne_iff_ne]; omega
          have d1 : decide (c < 0) = false := decide_eq_false (by omega)
        case' inr.inr =>
          have d0 : (c != 0) = true := by rw [bne_iff_ne]; omega
          have d1 : decide (c < 0) = true := decide_eq_true (by omega)
        all_goals
          have HLH := Lib.hid (And.intro h3 h4)
          clear h3 h4
        · go_wp2_with fail
          refine HR.out.mono ?_
          rintro e w5 ⟨rfl, ⟨F5, q5, f5⟩, c5⟩
          have hb5 : Below w.heap.size w w5 := belowChg HQ4.out.2 c5 HQ4.out.2.size fun k hk _ => HK.out k hk
          have HR5 := Lib.hid (rangeL (HLd.out _ hb5) q5 0 (-1) (by omega) (by omega))
          rw [rngL_all] at HR5
          have HB5 := Lib.hid hb5
          clear q5 f5 c5 hb5 HR
          have HNA := Lib.hid (show (remF s lo hi 0 zs).length ≤ k by
            have h2 : ∀ (L : List ByteArray) (q : Nat), (remF s lo hi q L).length ≤ L.length := by
              intro L
              induction L with
              | nil => intro q; simp [remF]
              | cons x L ih =>
                intro q
                rw [remF]
                have := ih q
                have := ih (q + 1)
                split
                · split <;> simp <;> omega
                · simp; omega
            have := h2 zs 0
            rw [HLn.out] at this
            exact this)
          obtain ⟨rl, hrl⟩ : ∃ rl, rl = (remF s lo hi 0 zs).length := ⟨_, rfl⟩
          rw [← hrl] at HR5 HNA
          have hrk := HNA.out
          have HRl := Lib.hid hrl
          clear hrl
          go_wp2_with fail
          refine HR5.out.mono ?_
          rintro e w6 ⟨⟨v6, rfl, s6⟩, b6⟩
          rw [HRl.out] at s6
          obtain ⟨a6, c6, rfl, har6⟩ := texts_of_slice s6
          rw [← HRl.out] at har6 ⊢
          have hc6 := har6.1
          have HA6 := Lib.hid har6
          have HB6 := Lib.hid (HB5.out.trans (b6.mono HB5.out.size))
          clear s6 b6 har6 HR5
          go_wp2_with fail
          go_loopw [14, 15, 16] (fun kk sn i wr => ∃ j : Nat, j ≤ k ∧ i = .int .i64 j ∧ sn = .int .i64 ((plcF s 0 (zs.take j)).length : Nat) ∧ kk = .int .i64 ((remF s lo hi 0 (zs.take j)).length : Nat) ∧ ∃ d, wr = w6.drewN d) (fun _ _ i _ => k - (intOf i).toNat)
          case atStart => exact ⟨0, Nat.zero_le _, rfl, by simp [plcF], by simp [remF], 0, rfl⟩
          case round =>
            obtain ⟨j, hj, rfl, rfl, rfl, d, rfl⟩ := hrel
            by_cases hlt : j < k
            · obtain ⟨b, o, hb, hcl⟩ := (HA.out w6 HB6.out).2.resolve_left (by omega)
              subst hb
              have hjl : j < zs.length := by rw [HLn.out]; exact hlt
              have hcell : (w6.drewN d).cell? ⟨b, o + j, none⟩ = some (.string (zs.getD j ByteArray.empty)) := hcl j hlt
              have htk : zs.take (j + 1) = zs.take j ++ [zs.getD j ByteArray.empty] := by rw [List.take_succ_eq_append_getElem hjl]; simp [List.getD, hjl]
              have hsn := plcF_snoc s (zs.take j) 0 (zs.getD j ByteArray.empty)
              have hrm := remF_snoc s lo hi (zs.take j) 0 (zs.getD j ByteArray.empty)
              rw [← htk] at hsn hrm
              obtain ⟨T, hT⟩ := remF_prefix s lo hi zs (j + 1)
              have hle1 := plcF_len_le s zs (j + 1)
              rw [← Hm.out] at hle1
              have hpq := plcF_len s (zs.take j) 0
              rw [List.length_take] at hpq
              have hRl := HRl.out
              obtain ⟨hlo, hhi⟩ := HLH.out
              clear hcl htk
              generalize zs.getD j ByteArray.empty = y at *
              by_cases hys : y = s
              · have hq : (y.toList == s.toList) = true := by rw [hys]; exact beq_self_eq_true _
                rw [if_pos hys] at hsn
                have HN1 := Lib.hid (show (plcF s 0 (zs.take (j + 1))).length = (plcF s 0 (zs.take j)).length + 1 by rw [hsn]; simp)
                rw [HN1.out] at hle1
                by_cases hin : lo ≤ (plcF s 0 (zs.take j)).length ∧ (plcF s 0 (zs.take j)).length < hi
                · rw [if_pos ⟨hys, by omega, by omega⟩] at hrm
                  have HN2 := Lib.hid (show (remF s lo hi 0 (zs.take (j + 1))).length = (remF s lo hi 0 (zs.take j)).length by rw [hrm])
                  have HCell := Lib.hid hcell
                  clear hsn hys hrm hT hcell
                  generalize (plcF s 0 (zs.take j)).length = q at *
                  generalize (remF s lo hi 0 (zs.take j)).length = p at *
                  have e1 : decide ((m : Int) - (W : Int) < (q : Int) + 1) = true := decide_eq_true (by omega)
                  have e2 : decide ((m : Int) - (W : Int) ≤ (q : Int)) = true := decide_eq_true (by omega)
                  have e3 : decide (0 ≤ c) = false := decide_eq_false (by omega)
                  clear hlo hhi hin hRl hle1
                  have hcell : (w6.drewN d).cell? ⟨b, o + j, none⟩ = some (.string y) := HCell.out
                  go_wp2_with fail
                  go_roundw
                  case rel => exact ⟨j + 1, by omega, by go_num, by rw [HN1.out]; go_num, by rw [HN2.out], d, rfl⟩
                  case measure => simp [intOf]; omega
                · rw [if_neg (fun h => hin ⟨by omega, by omega⟩)] at hrm
                  have HN2 := Lib.hid (show (remF s lo hi 0 (zs.take (j + 1))).length = (remF s lo hi 0 (zs.take j)).length + 1 by rw [hrm]; simp)
                  have hp : (remF s lo hi 0 (zs.take j)).length < rl := by rw [hRl, hT, hrm]; simp
                  have hRp : (remF s lo hi 0 zs).getD (remF s lo hi 0 (zs.take j)).length ByteArray.empty = y := by rw [hT, hrm]; simp [List.getD]
                  clear hsn hys hrm hT hRl
                  generalize (plcF s 0 (zs.take j)).length = q at *
                  generalize (remF s lo hi 0 (zs.take j)).length = p at *
                  have e1 : decide ((m : Int) - (W : Int) < (q : Int) + 1) = false := decide_eq_false (by omega)
                  have e2 : decide ((m : Int) - (W : Int) ≤ (q : Int)) = false := decide_eq_false (by omega)
                  have e3 : decide (0 ≤ c) = false := decide_eq_false (by omega)
                  clear hlo hhi hin hle1
                  obtain ⟨b6, o6, hb6, hc6⟩ := HA6.out.2.resolve_left (by omega)
                  have hcell6 : (w6.drewN d).cell? ⟨b6, o6 + p, none⟩ = some (.string y) := (hc6 p hp).trans (congrArg (fun z => some (Value.string z)) hRp)
                  subst hb6
                  obtain ⟨X1, f, hX1, hf, hF⟩ := classOf (fun x => x.cell? ⟨b6, o6 + p, none⟩ = some (.string y) ∧ x.cell? ⟨b, o + j, none⟩ = some (.string y)) ⟨hcell6, hcell⟩
                  have HF := Lib.hid (hF (w6.drewN d).drew ⟨hcell6, hcell⟩)
                  have hf1 := fun x => (hf x).1
                  have hf2 := fun x => (hf x).2
                  have hge : decide ((rl : Int) ≤ (p : Int)) = false := decide_eq_false (by omega)
                  have hge2 : decide (rl ≤ p) = false := decide_eq_false (by omega)
                  clear hF hf hc6 hcell6 hRp
                  go_wp2_with fail
                  refine wp_region_text ⟨[], [], 15⟩ (fun w' => ∃ x : X1, w' = f x) (by kernel_rfl) (by kernel_rfl) HF.out ?_
                  refine wpC_seg false (HF.out) 15 0 _ _ (by rfl) (by rfl) ?_
                  simp only [List.take_succ_cons, List.take_zero, List.drop_succ_cons, List.drop_zero, Bool.false_eq_true, if_false, Nat.zero_add, Nat.reduceAdd]
                  repeat (go_big_quiet_step (fail))
                  refine wpQuiet_nil ?_
                  refine wpC_nil ?_
                  clear hf1 hf2 hX1 HF
                  go_wp2_with fail
                  go_roundw
                  case rel => exact ⟨j + 1, by omega, by go_num, by rw [HN1.out]; go_num, by rw [HN2.out]; go_num, d + 1, rfl⟩
                  case measure => simp [intOf]; omega
              · have hq : (y.toList == s.toList) = false := by
                  rw [beq_eq_false_iff_ne, ne_eq, ByteArray.toList_eq, ByteArray.toList_eq]
                  exact fun e => hys (ByteArray.ext (Array.toList_inj.1 e))
                rw [if_neg hys] at hsn
                rw [if_neg (fun h => hys h.1)] at hrm
                have HN1 := Lib.hid (show (plcF s 0 (zs.take (j + 1))).length = (plcF s 0 (zs.take j)).length by rw [hsn])
                have HN2 := Lib.hid (show (remF s lo hi 0 (zs.take (j + 1))).length = (remF s lo hi 0 (zs.take j)).length + 1 by rw [hrm]; simp)
                have hp : (remF s lo hi 0 (zs.take j)).length < rl := by rw [hRl, hT, hrm]; simp
                have hRp : (remF s lo hi 0 zs).getD (remF s lo hi 0 (zs.take j)).length ByteArray.empty = y := by rw [hT, hrm]; simp [List.getD]
                clear hsn hys hrm hT hRl hlo hhi hle1
                generalize (plcF s 0 (zs.take j)).length = q at *
                generalize (remF s lo hi 0 (zs.take j)).length = p at *
                obtain ⟨b6, o6, hb6, hc6⟩ := HA6.out.2.resolve_left (by omega)
                have hcell6 : (w6.drewN d).cell? ⟨b6, o6 + p, none⟩ = some (.string y) := (hc6 p hp).trans (congrArg (fun z => some (Value.string z)) hRp)
                subst hb6
                obtain ⟨X1, f, hX1, hf, hF⟩ := classOf (fun x => x.cell? ⟨b6, o6 + p, none⟩ = some (.string y) ∧ x.cell? ⟨b, o + j, none⟩ = some (.string y)) ⟨hcell6, hcell⟩
                have HF := Lib.hid (hF (w6.drewN d).drew ⟨hcell6, hcell⟩)
                have hf1 := fun x => (hf x).1
                have hf2 := fun x => (hf x).2
                have hge : decide ((rl : Int) ≤ (p : Int)) = false := decide_eq_false (by omega)
                have hge2 : decide (rl ≤ p) = false := decide_eq_false (by omega)
                clear hF hf hc6 hcell6 hRp
                go_wp2_with fail
                refine wp_region_text ⟨[], [], 15⟩ (fun w' => ∃ x : X1, w' = f x) (by kernel_rfl) (by kernel_rfl) HF.out ?_
                refine wpC_seg false (HF.out) 15 0 _ _ (by rfl) (by rfl) ?_
                simp only [List.take_succ_cons, List.take_zero, List.drop_succ_cons, List.drop_zero, Bool.false_eq_true, if_false, Nat.zero_add, Nat.reduceAdd]
                repeat (go_big_quiet_step (fail))
                refine wpQuiet_nil ?_
                refine wpC_nil ?_
                clear hf1 hf2 hX1 HF
                go_wp2_with fail
                go_roundw
                case rel => exact ⟨j + 1, by omega, by go_num, by rw [HN1.out], by rw [HN2.out]; go_num, d + 1, rfl⟩
                case measure => simp [intOf]; omega
            · obtain rfl : j = k := by omega
              rw [List.take_of_length_le (by rw [HLn.out]; exact Nat.le_refl _), ← HRl.out, ← Hm.out]
              go_wp2_with fail
              go_ret
              exact ⟨rfl, belowN HB6.out _⟩
        · go_wp2_with fail
          refine HR.out.mono ?_
          rintro e w5 ⟨rfl, ⟨F5, q5, f5⟩, c5⟩
          have hb5 : Below w.heap.size w w5 := belowChg HQ4.out.2 c5 HQ4.out.2.size fun k hk _ => HK.out k hk
          have HR5 := Lib.hid (rangeL (HLd.out _ hb5) q5 0 (-1) (by omega) (by omega))
          rw [rngL_all] at HR5
          have HB5 := Lib.hid hb5
          clear q5 f5 c5 hb5 HR
          have HNA := Lib.hid (show (remF s lo hi 0 zs).length ≤ k by
            have h2 : ∀ (L : List ByteArray) (q : Nat), (remF s lo hi q L).length ≤ L.length := by
              intro L
              induction L with
              | nil => intro q; simp [remF]
              | cons x L ih =>
                intro q
                rw [remF]
                have := ih q
                have := ih (q + 1)
                split
                · split <;> simp <;> omega
                · simp; omega
            have := h2 zs 0
            rw [HLn.out] at this
            exact this)
          obtain ⟨rl, hrl⟩ : ∃ rl, rl = (remF s lo hi 0 zs).length := ⟨_, rfl⟩
          rw [← hrl] at HR5 HNA
          have hrk := HNA.out
          have HRl := Lib.hid hrl
          clear hrl
          go_wp2_with fail
          refine HR5.out.mono ?_
          rintro e w6 ⟨⟨v6, rfl, s6⟩, b6⟩
          rw [HRl.out] at s6
          obtain ⟨a6, c6, rfl, har6⟩ := texts_of_slice s6
          rw [← HRl.out] at har6 ⊢
          have hc6 := har6.1
          have HA6 := Lib.hid har6
          have HB6 := Lib.hid (HB5.out.trans (b6.mono HB5.out.size))
          clear s6 b6 har6 HR5
          go_wp2_with fail
          go_loopw [14, 15, 16] (fun kk sn i wr => ∃ j : Nat, j ≤ k ∧ i = .int .i64 j ∧ sn = .int .i64 ((plcF s 0 (zs.take j)).length : Nat) ∧ kk = .int .i64 ((remF s lo hi 0 (zs.take j)).length : Nat) ∧ ∃ d, wr = w6.drewN d) (fun _ _ i _ => k - (intOf i).toNat)
          case atStart => exact ⟨0, Nat.zero_le _, rfl, by simp [plcF], by simp [remF], 0, rfl⟩
          case round =>
            obtain ⟨j, hj, rfl, rfl, rfl, d, rfl⟩ := hrel
            by_cases hlt : j < k
            · obtain ⟨b, o, hb, hcl⟩ := (HA.out w6 HB6.out).2.resolve_left (by omega)
              subst hb
              have hjl : j < zs.length := by rw [HLn.out]; exact hlt
              have hcell : (w6.drewN d).cell? ⟨b, o + j, none⟩ = some (.string (zs.getD j ByteArray.empty)) := hcl j hlt
              have htk : zs.take (j + 1) = zs.take j ++ [zs.getD j ByteArray.empty] := by rw [List.take_succ_eq_append_getElem hjl]; simp [List.getD, hjl]
              have hsn := plcF_snoc s (zs.take j) 0 (zs.getD j ByteArray.empty)
              have hrm := remF_snoc s lo hi (zs.take j) 0 (zs.getD j ByteArray.empty)
              rw [← htk] at hsn hrm
              obtain ⟨T, hT⟩ := remF_prefix s lo hi zs (j + 1)
              have hle1 := plcF_len_le s zs (j + 1)
              rw [← Hm.out] at hle1
              have hpq := plcF_len s (zs.take j) 0
              rw [List.length_take] at hpq
              have hRl := HRl.out
              obtain ⟨hlo, hhi⟩ := HLH.out
              clear hcl htk
              generalize zs.getD j ByteArray.empty = y at *
              by_cases hys : y = s
              · have hq : (y.toList == s.toList) = true := by rw [hys]; exact beq_self_eq_true _
                rw [if_pos hys] at hsn
                have HN1 := Lib.hid (show (plcF s 0 (zs.take (j + 1))).length = (plcF s 0 (zs.take j)).length + 1 by rw [hsn]; simp)
                rw [HN1.out] at hle1
                by_cases hin : lo ≤ (plcF s 0 (zs.take j)).length ∧ (plcF s 0 (zs.take j)).length < hi
                · rw [if_pos ⟨hys, by omega, by omega⟩] at hrm
                  have HN2 := Lib.hid (show (remF s lo hi 0 (zs.take (j + 1))).length = (remF s lo hi 0 (zs.take j)).length by rw [hrm])
                  have HCell := Lib.hid hcell
                  clear hsn hys hrm hT hcell
                  generalize (plcF s 0 (zs.take j)).length = q at *
                  generalize (remF s lo hi 0 (zs.take j)).length = p at *
                  have e1 : decide ((q : Int) + 1 ≤ (W : Int)) = true := decide_eq_true (by omega)
                  have e2 : decide ((q : Int) < (W : Int)) = true := decide_eq_true (by omega)
                  have e4 : decide (q < W) = true := decide_eq_true (by omega)
                  have e3 : decide (0 ≤ c) = true := decide_eq_true (by omega)
                  clear hlo hhi hin hRl hle1
                  have hcell : (w6.drewN d).cell? ⟨b, o + j, none⟩ = some (.string y) := HCell.out
                  go_wp2_with fail
                  go_roundw
                  case rel => exact ⟨j + 1, by omega, by go_num, by rw [HN1.out]; go_num, by rw [HN2.out], d, rfl⟩
                  case measure => simp [intOf]; omega
                · rw [if_neg (fun h => hin ⟨by omega, by omega⟩)] at hrm
                  have HN2 := Lib.hid (show (remF s lo hi 0 (zs.take (j + 1))).length = (remF s lo hi 0 (zs.take j)).length + 1 by rw [hrm]; simp)
                  have hp : (remF s lo hi 0 (zs.take j)).length < rl := by rw [hRl, hT, hrm]; simp
                  have hRp : (remF s lo hi 0 zs).getD (remF s lo hi 0 (zs.take j)).length ByteArray.empty = y := by rw [hT, hrm]; simp [List.getD]
                  clear hsn hys hrm hT hRl
                  generalize (plcF s 0 (zs.take j)).length = q at *
                  generalize (remF s lo hi 0 (zs.take j)).length = p at *
                  have e1 : decide ((q : Int) + 1 ≤ (W : Int)) = false := decide_eq_false (by omega)
                  have e2 : decide ((q : Int) < (W : Int)) = false := decide_eq_false (by omega)
                  have e4 : decide (q < W) = false := decide_eq_false (by omega)
                  have e3 : decide (0 ≤ c) = true := decide_eq_true (by omega)
                  clear hlo hhi hin hle1
                  obtain ⟨b6, o6, hb6, hc6⟩ := HA6.out.2.resolve_left (by omega)
                  have hcell6 : (w6.drewN d).cell? ⟨b6, o6 + p, none⟩ = some (.string y) := (hc6 p hp).trans (congrArg (fun z => some (Value.string z)) hRp)
                  subst hb6
                  obtain ⟨X1, f, hX1, hf, hF⟩ := classOf (fun x => x.cell? ⟨b6, o6 + p, none⟩ = some (.string y) ∧ x.cell? ⟨b, o + j, none⟩ = some (.string y)) ⟨hcell6, hcell⟩
                  have HF := Lib.hid (hF (w6.drewN d).drew ⟨hcell6, hcell⟩)
                  have hf1 := fun x => (hf x).1
                  have hf2 := fun x => (hf x).2
                  have hge : decide ((rl : Int) ≤ (p : Int)) = false := decide_eq_false (by omega)
                  have hge2 : decide (rl ≤ p) = false := decide_eq_false (by omega)
                  clear hF hf hc6 hcell6 hRp
                  go_wp2_with fail
                  refine wp_region_text ⟨[], [], 15⟩ (fun w' => ∃ x : X1, w' = f x) (by kernel_rfl) (by kernel_rfl) HF.out ?_
                  refine wpC_seg false (HF.out) 15 0 _ _ (by rfl) (by rfl) ?_
                  simp only [List.take_succ_cons, List.take_zero, List.drop_succ_cons, List.drop_zero, Bool.false_eq_true, if_false, Nat.zero_add, Nat.reduceAdd]
                  repeat (go_big_quiet_step (fail))
                  refine wpQuiet_nil ?_
                  refine wpC_nil ?_
                  clear hf1 hf2 hX1 HF
                  go_wp2_with fail
                  go_roundw
                  case rel => exact ⟨j + 1, by omega, by go_num, by rw [HN1.out]; go_num, by rw [HN2.out]; go_num, d + 1, rfl⟩
                  case measure => simp [intOf]; omega
              · have hq : (y.toList == s.toList) = false := by
                  rw [beq_eq_false_iff_ne, ne_eq, ByteArray.toList_eq, ByteArray.toList_eq]
                  exact fun e => hys (ByteArray.ext (Array.toList_inj.1 e))
                rw [if_neg hys] at hsn
                rw [if_neg (fun h => hys h.1)] at hrm
                have HN1 := Lib.hid (show (plcF s 0 (zs.take (j + 1))).length = (plcF s 0 (zs.take j)).length by rw [hsn])
                have HN2 := Lib.hid (show (remF s lo hi 0 (zs.take (j + 1))).length = (remF s lo hi 0 (zs.take j)).length + 1 by rw [hrm]; simp)
                have hp : (remF s lo hi 0 (zs.take j)).length < rl := by rw [hRl, hT, hrm]; simp
                have hRp : (remF s lo hi 0 zs).getD (remF s lo hi 0 (zs.take j)).length ByteArray.empty = y := by rw [hT, hrm]; simp [List.getD]
                clear hsn hys hrm hT hRl hlo hhi hle1
                generalize (plcF s 0 (zs.take j)).length = q at *
                generalize (remF s lo hi 0 (zs.take j)).length = p at *
                obtain ⟨b6, o6, hb6, hc6⟩ := HA6.out.2.resolve_left (by omega)
                have hcell6 : (w6.drewN d).cell? ⟨b6, o6 + p, none⟩ = some (.string y) := (hc6 p hp).trans (congrArg (fun z => some (Value.string z)) hRp)
                subst hb6
                obtain ⟨X1, f, hX1, hf, hF⟩ := classOf (fun x => x.cell? ⟨b6, o6 + p, none⟩ = some (.string y) ∧ x.cell? ⟨b, o + j, none⟩ = some (.string y)) ⟨hcell6, hcell⟩
                have HF := Lib.hid (hF (w6.drewN d).drew ⟨hcell6, hcell⟩)
                have hf1 := fun x => (hf x).1
                have hf2 := fun x => (hf x).2
                have hge : decide ((rl : Int) ≤ (p : Int)) = false := decide_eq_false (by omega)
                have hge2 : decide (rl ≤ p) = false := decide_eq_false (by omega)
                clear hF hf hc6 hcell6 hRp
                go_wp2_with fail
                refine wp_region_text ⟨[], [], 15⟩ (fun w' => ∃ x : X1, w' = f x) (by kernel_rfl) (by kernel_rfl) HF.out ?_
                refine wpC_seg false (HF.out) 15 0 _ _ (by rfl) (by rfl) ?_
                simp only [List.take_succ_cons, List.take_zero, List.drop_succ_cons, List.drop_zero, Bool.false_eq_true, if_false, Nat.zero_add, Nat.reduceAdd]
                repeat (go_big_quiet_step (fail))
                refine wpQuiet_nil ?_
                refine wpC_nil ?_
                clear hf1 hf2 hX1 HF
                go_wp2_with fail
                go_roundw
                case rel => exact ⟨j + 1, by omega, by go_num, by rw [HN1.out], by rw [HN2.out]; go_num, d + 1, rfl⟩
                case measure => simp [intOf]; omega
            · obtain rfl : j = k := by omega
              rw [List.take_of_length_le (by rw [HLn.out]; exact Nat.le_refl _), ← HRl.out, ← Hm.out]
              go_wp2_with fail
              go_ret
              exact ⟨rfl, belowN HB6.out _⟩
        · go_wp2_with fail
          refine HR.out.mono ?_
          rintro e w5 ⟨rfl, ⟨F5, q5, f5⟩, c5⟩
          have hb5 : Below w.heap.size w w5 := belowChg HQ4.out.2 c5 HQ4.out.2.size fun k hk _ => HK.out k hk
          have HR5 := Lib.hid (rangeL (HLd.out _ hb5) q5 0 (-1) (by omega) (by omega))
          rw [rngL_all] at HR5
          have HB5 := Lib.hid hb5
          clear q5 f5 c5 hb5 HR
          have HNA := Lib.hid (show (remF s lo hi 0 zs).length ≤ k by
            have h2 : ∀ (L : List ByteArray) (q : Nat), (remF s lo hi q L).length ≤ L.length := by
              intro L
              induction L with
              | nil => intro q; simp [remF]
              | cons x L ih =>
                intro q
                rw [remF]
                have := ih q
                have := ih (q + 1)
                split
                · split <;> simp <;> omega
                · simp; omega
            have := h2 zs 0
            rw [HLn.out] at this
            exact this)
          obtain ⟨rl, hrl⟩ : ∃ rl, rl = (remF s lo hi 0 zs).length := ⟨_, rfl⟩
          rw [← hrl] at HR5 HNA
          have hrk := HNA.out
          have HRl := Lib.hid hrl
          clear hrl
          go_wp2_with fail
          refine HR5.out.mono ?_
          rintro e w6 ⟨⟨v6, rfl, s6⟩, b6⟩
          rw [HRl.out] at s6
          obtain ⟨a6, c6, rfl, har6⟩ := texts_of_slice s6
          rw [← HRl.out] at har6 ⊢
          have hc6 := har6.1
          have HA6 := Lib.hid har6
          have HB6 := Lib.hid (HB5.out.trans (b6.mono HB5.out.size))
          clear s6 b6 har6 HR5
          go_wp2_with fail
          go_loopw [14, 15, 16] (fun kk sn i wr => ∃ j : Nat, j ≤ k ∧ i = .int .i64 j ∧ sn = .int .i64 ((plcF s 0 (zs.take j)).length : Nat) ∧ kk = .int .i64 ((remF s lo hi 0 (zs.take j)).length : Nat) ∧ ∃ d, wr = w6.drewN d) (fun _ _ i _ => k - (intOf i).toNat)
          case atStart => exact ⟨0, Nat.zero_le _, rfl, by simp [plcF], by simp [remF], 0, rfl⟩
          case round =>
            obtain ⟨j, hj, rfl, rfl, rfl, d, rfl⟩ := hrel
            by_cases hlt : j < k
            · obtain ⟨b, o, hb, hcl⟩ := (HA.out w6 HB6.out).2.resolve_left (by omega)
              subst hb
              have hjl : j < zs.length := by rw [HLn.out]; exact hlt
              have hcell : (w6.drewN d).cell? ⟨b, o + j, none⟩ = some (.string (zs.getD j ByteArray.empty)) := hcl j hlt
              have htk : zs.take (j + 1) = zs.take j ++ [zs.getD j ByteArray.empty] := by rw [List.take_succ_eq_append_getElem hjl]; simp [List.getD, hjl]
              have hsn := plcF_snoc s (zs.take j) 0 (zs.getD j ByteArray.empty)
              have hrm := remF_snoc s lo hi (zs.take j) 0 (zs.getD j ByteArray.empty)
              rw [← htk] at hsn hrm
              obtain ⟨T, hT⟩ := remF_prefix s lo hi zs (j + 1)
              have hle1 := plcF_len_le s zs (j + 1)
              rw [← Hm.out] at hle1
              have hpq := plcF_len s (zs.take j) 0
              rw [List.length_take] at hpq
              have hRl := HRl.out
              obtain ⟨hlo, hhi⟩ := HLH.out
              clear hcl htk
              generalize zs.getD j ByteArray.empty = y at *
              by_cases hys : y = s
              · have hq : (y.toList == s.toList) = true := by rw [hys]; exact beq_self_eq_true _
                rw [if_pos hys] at hsn
                have HN1 := Lib.hid (show (plcF s 0 (zs.take (j + 1))).length = (plcF s 0 (zs.take j)).length + 1 by rw [hsn]; simp)
                rw [HN1.out] at hle1
                by_cases hin : lo ≤ (plcF s 0 (zs.take j)).length ∧ (plcF s 0 (zs.take j)).length < hi
                · rw [if_pos ⟨hys, by omega, by omega⟩] at hrm
                  have HN2 := Lib.hid (show (remF s lo hi 0 (zs.take (j + 1))).length = (remF s lo hi 0 (zs.take j)).length by rw [hrm])
                  have HCell := Lib.hid hcell
                  clear hsn hys hrm hT hcell
                  generalize (plcF s 0 (zs.take j)).length = q at *
                  generalize (remF s lo hi 0 (zs.take j)).length = p at *
                  have e1 : decide ((q : Int) + 1 ≤ (W : Int)) = true := decide_eq_true (by omega)
                  have e2 : decide ((q : Int) < (W : Int)) = true := decide_eq_true (by omega)
                  have e4 : decide (q < W) = true := decide_eq_true (by omega)
                  clear hlo hhi hin hRl hle1
                  have hcell : (w6.drewN d).cell? ⟨b, o + j, none⟩ = some (.string y) := HCell.out
                  go_wp2_with fail
                  go_roundw
                  case rel => exact ⟨j + 1, by omega, by go_num, by rw [HN1.out]; go_num, by rw [HN2.out], d, rfl⟩
                  case measure => simp [intOf]; omega
                · rw [if_neg (fun h => hin ⟨by omega, by omega⟩)] at hrm
                  have HN2 := Lib.hid (show (remF s lo hi 0 (zs.take (j + 1))).length = (remF s lo hi 0 (zs.take j)).length + 1 by rw [hrm]; simp)
                  have hp : (remF s lo hi 0 (zs.take j)).length < rl := by rw [hRl, hT, hrm]; simp
                  have hRp : (remF s lo hi 0 zs).getD (remF s lo hi 0 (zs.take j)).length ByteArray.empty = y := by rw [hT, hrm]; simp [List.getD]
                  clear hsn hys hrm hT hRl
                  generalize (plcF s 0 (zs.take j)).length = q at *
                  generalize (remF s lo hi 0 (zs.take j)).length = p at *
                  have e1 : decide ((q : Int) + 1 ≤ (W : Int)) = false := decide_eq_false (by omega)
                  have e2 : decide ((q : Int) < (W : Int)) = false := decide_eq_false (by omega)
                  have e4 : decide (q < W) = false := decide_eq_false (by omega)
                  clear hlo hhi hin hle1
                  obtain ⟨b6, o6, hb6, hc6⟩ := HA6.out.2.resolve_left (by omega)
                  have hcell6 : (w6.drewN d).cell? ⟨b6, o6 + p, none⟩ = some (.string y) := (hc6 p hp).trans (congrArg (fun z => some (Value.string z)) hRp)
                  subst hb6
                  obtain ⟨X1, f, hX1, hf, hF⟩ := classOf (fun x => x.cell? ⟨b6, o6 + p, none⟩ = some (.string y) ∧ x.cell? ⟨b, o + j, none⟩ = some (.string y)) ⟨hcell6, hcell⟩
                  have HF := Lib.hid (hF (w6.drewN d).drew ⟨hcell6, hcell⟩)
                  have hf1 := fun x => (hf x).1
                  have hf2 := fun x => (hf x).2
                  have hge : decide ((rl : Int) ≤ (p : Int)) = false := decide_eq_false (by omega)
                  have hge2 : decide (rl ≤ p) = false := decide_eq_false (by omega)
                  clear hF hf hc6 hcell6 hRp
                  go_wp2_with fail
                  refine wp_region_text ⟨[], [], 15⟩ (fun w' => ∃ x : X1, w' = f x) (by kernel_rfl) (by kernel_rfl) HF.out ?_
                  refine wpC_seg false (HF.out) 15 0 _ _ (by rfl) (by rfl) ?_
                  simp only [List.take_succ_cons, List.take_zero, List.drop_succ_cons, List.drop_zero, Bool.false_eq_true, if_false, Nat.zero_add, Nat.reduceAdd]
                  repeat (go_big_quiet_step (fail))
                  refine wpQuiet_nil ?_
                  refine wpC_nil ?_
                  clear hf1 hf2 hX1 HF
                  go_wp2_with fail
                  go_roundw
                  case rel => exact ⟨j + 1, by omega, by go_num, by rw [HN1.out]; go_num, by rw [HN2.out]; go_num, d + 1, rfl⟩
                  case measure => simp [intOf]; omega
              · have hq : (y.toList == s.toList) = false := by
                  rw [beq_eq_false_iff_ne, ne_eq, ByteArray.toList_eq, ByteArray.toList_eq]
                  exact fun e => hys (ByteArray.ext (Array.toList_inj.1 e))
                rw [if_neg hys] at hsn
                rw [if_neg (fun h => hys h.1)] at hrm
                have HN1 := Lib.hid (show (plcF s 0 (zs.take (j + 1))).length = (plcF s 0 (zs.take j)).length by rw [hsn])
                have HN2 := Lib.hid (show (remF s lo hi 0 (zs.take (j + 1))).length = (remF s lo hi 0 (zs.take j)).length + 1 by rw [hrm]; simp)
                have hp : (remF s lo hi 0 (zs.take j)).length < rl := by rw [hRl, hT, hrm]; simp
                have hRp : (remF s lo hi 0 zs).getD (remF s lo hi 0 (zs.take j)).length ByteArray.empty = y := by rw [hT, hrm]; simp [List.getD]
                clear hsn hys hrm hT hRl hlo hhi hle1
                generalize (plcF s 0 (zs.take j)).length = q at *
                generalize (remF s lo hi 0 (zs.take j)).length = p at *
                obtain ⟨b6, o6, hb6, hc6⟩ := HA6.out.2.resolve_left (by omega)
                have hcell6 : (w6.drewN d).cell? ⟨b6, o6 + p, none⟩ = some (.string y) := (hc6 p hp).trans (congrArg (fun z => some (Value.string z)) hRp)
                subst hb6
                obtain ⟨X1, f, hX1, hf, hF⟩ := classOf (fun x => x.cell? ⟨b6, o6 + p, none⟩ = some (.string y) ∧ x.cell? ⟨b, o + j, none⟩ = some (.string y)) ⟨hcell6, hcell⟩
                have HF := Lib.hid (hF (w6.drewN d).drew ⟨hcell6, hcell⟩)
                have hf1 := fun x => (hf x).1
                have hf2 := fun x => (hf x).2
                have hge : decide ((rl : Int) ≤ (p : Int)) = false := decide_eq_false (by omega)
                have hge2 : decide (rl ≤ p) = false := decide_eq_false (by omega)
                clear hF hf hc6 hcell6 hRp
                go_wp2_with fail
                refine wp_region_text ⟨[], [], 15⟩ (fun w' => ∃ x : X1, w' = f x) (by kernel_rfl) (by kernel_rfl) HF.out ?_
                refine wpC_seg false (HF.out) 15 0 _ _ (by rfl) (by rfl) ?_
                simp only [List.take_succ_cons, List.take_zero, List.drop_succ_cons, List.drop_zero, Bool.false_eq_true, if_false, Nat.zero_add, Nat.reduceAdd]
                repeat (go_big_quiet_step (fail))
                refine wpQuiet_nil ?_
                refine wpC_nil ?_
                clear hf1 hf2 hX1 HF
                go_wp2_with fail
                go_roundw
                case rel => exact ⟨j + 1, by omega, by go_num, by rw [HN1.out], by rw [HN2.out]; go_num, d + 1, rfl⟩
                case measure => simp [intOf]; omega
            · obtain rfl : j = k := by omega
              rw [List.take_of_length_le (by rw [HLn.out]; exact Nat.le_refl _), ← HRl.out, ← Hm.out]
              go_wp2_with fail
              go_ret
              exact ⟨rfl, belowN HB6.out _⟩
theorem listRemoves_walk {w : World} (hl : Laid w) (a : Option Addr) (n ca : Nat) (zs : List ByteArray) (s : ByteArray) (c : Int) (ha : zs.length = n ∧ ArgRow w a n ca fun i => .string (zs.getD i ByteArray.empty)) (ta : totalT zs ≤ 1048576) (hs : s.size ≤ 1048576) (hc : (Lit.int .i8 c).wf = true) :
    Calls Tryd.prog 5 #[.slice a n ca, .string s, .int .i8 c] w fun e w' => e = .returned (.bool true) ∧ Below w.heap.size w w' :=
  listRemoves_all hl a n ca zs s c ha ta hs (by simpa [Lit.wf, IntKind.min, IntKind.max, IntKind.signed, IntKind.bits] using hc)
end Go.Proofs.YtlecnlnpgghmbaaDoor

/- what a row's list of variables gives (door seats): Laid; and a world that meets it. -/
namespace Go.Proofs.YtlecnlnpgghmbaaDoor
set_option linter.unusedVariables false
set_option linter.unusedSimpArgs false
open Go.RowKit
namespace Lay
theorem star : "*" ++ "errors.errorString" = "*errors.errorString" := by decide
theorem rowErr (u : TypeId) (h : Tryd.prog.typeName? 3 u = some "*errors.errorString") : u = 130 :=
  typeName_ptr_named (nm := "errors.errorString") (by rw [star]; kernel_rfl) (by kernel_rfl) (by decide) u (by rw [star]; exact h)
theorem laid_of {W : World} (h : laidMetH Tryd.prog Rows.listEndsRow.laid W) (hs : W.ShapedOpen Tryd.prog) : Laid W := by
  have h0 : laidMet Tryd.prog Rows.listEndsRow.laid W := h
  have h3 : laidMet Tryd.prog [("internal/strconv.uint64pow10", Rows.laid_internal_strconv_uint64pow10), ("strconv.ErrRange", Rows.laid_strconv_ErrRange), ("strconv.ErrSyntax", Rows.laid_strconv_ErrSyntax)] W := h0.tail.tail
  refine { tab := Lib.tabIs_of_head (n := 20) (g := 2) (by kernel_rfl) (by kernel_rfl) Tryd.underlying124 Tryd.underlying80 (by kernel_rfl) (by kernel_rfl) h3, syn := ?_, rng := ?_
         }
  · obtain ⟨a, _, hv, _⟩ := laid_sentinel (g := 0) h3.tail.tail (by kernel_rfl) (by kernel_rfl) Tryd.underlying101 rowErr Tryd.underlying130 Tryd.underlying132 rfl rfl Tryd.underlying9 (by kernel_rfl) (by kernel_rfl)
    exact ⟨_, _, hv⟩
  · obtain ⟨a, _, hv, _⟩ := laid_sentinel (g := 1) h3.tail (by kernel_rfl) (by kernel_rfl) Tryd.underlying101 rowErr Tryd.underlying130 Tryd.underlying132 rfl rfl Tryd.underlying9 (by kernel_rfl) (by kernel_rfl)
    exact ⟨_, _, hv⟩
/-- So many blocks has the settled world. -/
noncomputable def low : Nat := (World.holding Tryd.prog default ⟨#[], #[], []⟩).heap.size
abbrev synS : ByteArray := { data := #[105, 110, 118, 97, 108, 105, 100, 32, 115, 121, 110, 116, 97, 120] }
abbrev rngS : ByteArray := { data := #[118, 97, 108, 117, 101, 32, 111, 117, 116, 32, 111, 102, 32, 114, 97, 110, 103, 101] }
def lits : List (DataW Unit) → Array Value
  | [] => #[]
  | .lit (.int k n) :: l => #[.int k n] ++ lits l
  | _ :: l => lits l
def table : DataW Unit → Array Value
  | .agg l => lits l
  | _ => #[]
def into (cs : Array Value) : Obj → Obj
  | .cells _ t frozen => .cells cs t frozen
  | o => o
noncomputable def laidWorld (os : Os) : World :=
  let w0 := World.holding Tryd.prog os ⟨#[.cells #[.string synS] 132, .cells #[.string rngS] 132], #[], []⟩
  { w0 with heap := ((((w0.heap.modify 2 (into (table Rows.laid_internal_strconv_uint64pow10))).modify 3 (into (table Rows.laid_math_bits_deBruijn32tab))).modify 4 (into (table Rows.laid_math_bits_deBruijn64tab))).modify 0 (into #[.iface 130 (.pointer (some ⟨low, 0, none⟩))])).modify 1 (into #[.iface 130 (.pointer (some ⟨low + 1, 0, none⟩))]) }
theorem laid_met (os : Os) (args : Array Value) : laidMet Tryd.prog Rows.listEndsRow.laid ((laidWorld os).forCall (fun _ _ => 0) ⟨#[], args, []⟩).memory :=
  laidMet_of_run' 8 (by kernel_rfl) (by kernel_rfl)
end Lay
end Go.Proofs.YtlecnlnpgghmbaaDoor

/- The row of the law ListRemoves, and its card: for every input of at most 1048576 values and letters the Go function returns true and its arguments read as before, out of the walk listRemoves_walk. The library's variables that the row lists hold what the program's text lays (the card's tie, given). -/
namespace Go.Proofs.YtlecnlnpgghmbaaDoor.listRemovesRow
open Go.ChangeShapes Go.WideShapes Go.ChangeAt Go.RowKit
open Go.ChangeMaps (open_string shut_string)
set_option linter.unusedVariables false
set_option linter.unusedSimpArgs false
theorem own : ownKnob Tryd.prog.godebug = none := by kernel_rfl
theorem laidOut : laidOutB Tryd.prog = true := by kernel_rfl
theorem bulk {H : Type} {l : List (DataW H)} (hk : Rows.uptoSmall H l = true) : Rows.uptoBulkAll l ≤ 1048576 := of_decide_eq_true hk
theorem reads (os : Os) {H : Type} (enc : TypeId × Value → H) : ∃ places, DataW.whole enc Tryd.prog ((Lay.laidWorld os).forCall (fun _ _ => 0) ⟨#[], #[.slice none 0 0, .string ByteArray.empty, .int .i8 0], []⟩).memory Tryd.f5.params.toList Rows.listRemovesSpec.vars false (#[.slice none 0 0, .string ByteArray.empty, .int .i8 0] : Array Value).toList 8 = some ([.nil, .lit (.string []), .lit (.int .i8 0)], [], places) :=
  ⟨[], by kernel_rfl⟩
set_option maxRecDepth 100000 in
theorem contract (H : Type) (enc : TypeId × Value → H) (W : World) (base : Nat) (args : Array Value) (ds gs : List (DataW H)) (before : List MemPlace)
    (hval0 : ∀ (j : Nat) t v, Tryd.f5.params[j]? = some t → args[j]? = some v → Value.okWide Tryd.prog W .any base t v)
    (hW : DataW.Whole enc Tryd.prog Tryd.f5.params.toList Rows.listRemovesSpec.vars false W args.toList ds gs before) (hk0 : Rows.uptoSmall H (ds ++ gs) = true)
    (hsz0 : (DataW.weightsEach Tryd.prog (Tryd.f5.params.toList ++ Rows.listRemovesSpec.plain.varTypes Tryd.prog) (ds ++ gs)).all (· ≤ reachBytes) = true) (hL : Laid W) :
    Calls Tryd.prog 5 args W fun e W' => ∃ v, e = .returned v ∧ Rows.listRemovesSpec.post enc Tryd.prog Tryd.f5 false true false false W args v W' := by
  have hsz := hsz0
  have hk := bulk hk0
  have hval : ∀ (j : Nat) t v, Tryd.f5.params[j]? = some t → args[j]? = some v → Value.okWide Tryd.prog W .any base t v := hval0
  have hW' := hW
  obtain ⟨p, q, hA0, hV, rfl, hfz, hnd⟩ := hW
  have hA : DataW.TrodAll enc Tryd.prog W 0 (fun _ => true) true Tryd.f5.params.toList args.toList ds p := hA0
  rw [Tryd.params5] at hA hval hsz
  obtain ⟨v0, vs0, d0, ds0, p0, q0, hargs, rfl, rfl, h0, r0⟩ := trodAll_cons hA
  obtain ⟨v1, vs1, d1, ds1, p1, q1, rfl, rfl, rfl, h1, r1⟩ := trodAll_cons r0
  obtain ⟨v2, vs2, d2, ds2, p2, q2, rfl, rfl, rfl, h2, r2⟩ := trodAll_cons r1
  obtain ⟨rfl, rfl, rfl⟩ := trodAll_nil r2
  obtain rfl : args = #[v0, v1, v2] := by cases args; simp_all
  obtain ⟨rfl, rfl⟩ := trodVars_none hV
  have k0 := h0
  have lt0 : ∀ x ∈ p0, x.block < W.heap.size := by obtain ⟨m, hm⟩ := k0; exact DataW.trod_lt m _ _ _ hm
  obtain ⟨a0, len0, cap0, rfl⟩ := okWide_slice Tryd.underlying22 (hval 0 22 v0 rfl rfl)
  have b0 : Rows.uptoBulk d0 ≤ 1048576 := by
    have := hk
    simp only [List.cons_append, List.nil_append, List.append_nil, Rows.uptoBulkAll] at this
    omega
  obtain ⟨z0, w0, y0⟩ := texts_arg h0 b0
  have k1 := h1
  have lt1 : ∀ x ∈ p1, x.block < W.heap.size := by obtain ⟨m, hm⟩ := k1; exact DataW.trod_lt m _ _ _ hm
  obtain ⟨a1, rfl, rfl, rfl, y1⟩ := open_string Tryd.underlying9 (hval 1 9 v1 rfl rfl) h1
  have w1 : a1.size ≤ 140737488351232 := by
    have z := sized_string hsz (j := 1) (t := 9) rfl rfl
    rw [Array.length_toList] at z
    exact z
  have k2 := h2
  have lt2 : ∀ x ∈ p2, x.block < W.heap.size := by obtain ⟨m, hm⟩ := k2; exact DataW.trod_lt m _ _ _ hm
  obtain ⟨a2, rfl, rfl, rfl, w2⟩ := open_int Tryd.underlying38 (hval 2 38 v2 rfl rfl) h2
  have e1 : a1.data.toList.length = a1.size := by rw [Array.length_toList]; rfl
  simp only [List.cons_append, List.nil_append, List.append_nil, Rows.uptoBulkAll, Rows.uptoBulk] at hk
  clear hA0 hval0 hsz0 hsz
  refine (listRemoves_walk hL a0 len0 cap0 z0 a1 a2 w0 y0 (by omega) w2).mono fun e W' ⟨he, bel⟩ => ?_
  subst he
  exact ⟨_, rfl, _, _, _, [], _, [], hW', trodAll_mk1 (shut_bool Tryd.underlying4 _), (trodAll_cons_mk (Below.trod laidOut (by kernel_rfl) (of_decide_eq_true (by kernel_rfl)) k0 bel lt0) (trodAll_cons_mk (Below.trod laidOut (by kernel_rfl) (of_decide_eq_true (by kernel_rfl)) k1 bel lt1) (trodAll_cons_mk (Below.trod laidOut (by kernel_rfl) (of_decide_eq_true (by kernel_rfl)) k2 bel lt2) trodAll_mk0))), rfl, bel.frame _, fun h => by cases h⟩
set_option maxRecDepth 100000 in
theorem liftedUpto (os : Os) (started : os.Started) (H : Type) (enc : TypeId × Value → H) (F : Stop.Interp) :
    ReturnsInHanded {} Tryd.checked os 5 .any ((Rows.OpenSpec.upto Rows.listRemovesSpec).preRow enc Tryd.prog Tryd.f5 Rows.listRemovesUptoRow.domain false Rows.listRemovesUptoRow.laid) (((Rows.OpenSpec.upto Rows.listRemovesSpec).at F).post enc Tryd.prog Tryd.f5 false true false false) := by
  obtain ⟨places, hx⟩ := reads os enc
  refine returnsInHanded_of_row (C := Tryd.checked) (s := (Rows.OpenSpec.upto Rows.listRemovesSpec)) own started (by kernel_rfl) Tryd.func5
    (witness_row_at (enc := enc) (C := Tryd.checked) false (Lay.laidWorld os) #[.slice none 0 0, .string ByteArray.empty, .int .i8 0] rfl (by kernel_rfl) (by kernel_rfl) (by kernel_rfl)
      (OpenSpec.preRow_of_cond 8 hx (by kernel_rfl) (fun k hk => by cases hk; kernel_rfl) (by kernel_rfl) (Lay.laid_met os _))) ?_
  intro W base args ds gs before hval hW _ hcond hsz hL hS _
  exact contract H enc W base args ds gs before hval hW (hcond _ rfl) hsz (Lay.laid_of hL hS)
theorem saidUpto : Rows.ListRemovesUptoSaid :=
  OpenClaim.holds_of_cond 5 Tryd.f5 rfl rfl rfl rfl rfl rfl rfl ⟨rfl, rfl, rfl, rfl, rfl⟩ rfl rfl rfl rfl rfl (by kernel_rfl) Tryd.func5 (by kernel_rfl)
    (of_decide_eq_true (by kernel_rfl)) (by unfold Func.isWrapper; first | (rw [if_pos (by decide +kernel)]; kernel_rfl) | (rw [if_neg (by decide +kernel)]; exact ⟨rfl, rfl⟩))
    (fun os started H enc _ F => by rw [OpenClaim.pre_eq_preRow]; exact liftedUpto os started H enc F)
theorem plain (f : FuncId) (fn : Func) (hf : Tryd.pinned.checked.prog.funcNamed "stillroom/stillroomlaw12.ListRemoves" = some f) (hfn : Tryd.pinned.checked.prog.funcs[f]? = some fn) :
    true = Tryd.pinned.checked.prog.looks [] ∧ ∀ (j : Nat) t, fn.params[j]? = some t → Tryd.pinned.checked.prog.wantsStandIn t = false := by
  obtain rfl : f = 5 := Option.some.inj ((show Tryd.prog.funcNamed "stillroom/stillroomlaw12.ListRemoves" = some 5 by kernel_rfl).symm.trans hf) |>.symm
  obtain rfl : fn = Tryd.f5 := (Option.some.inj (Tryd.func5.symm.trans hfn)).symm
  refine ⟨by kernel_rfl, fun j t ht => ?_⟩
  rw [Tryd.params5] at ht
  have ht := Array.mem_of_getElem? ht
  have all : ∀ t ∈ (#[22, 9, 38] : Array TypeId), Tryd.prog.wantsStandIn t = false := by
    intro t ht
    simp only [List.mem_toArray, List.mem_cons, List.not_mem_nil, or_false] at ht
    rcases ht with rfl | rfl | rfl <;> kernel_rfl
  exact all t ht
end Go.Proofs.YtlecnlnpgghmbaaDoor.listRemovesRow
namespace Go.Proofs.YtlecnlnpgghmbaaDoor
open Go.Proofs.YtlecnlnpgghmbaaDoor.listRemovesRow in
/-- The law's card. -/
theorem listRemoves_holds : Rows.ListRemovesUptoCardSaid :=
  Claim7.holds_tied_plain_at .later [] _ _ _ _ saidUpto (fun _ h => by cases h) (by kernel_rfl) (fun _ h => by cases h) listRemovesUpto_row_tie rfl ⟨rfl, rfl⟩ (by kernel_rfl) rfl plain (by kernel_rfl)
end Go.Proofs.YtlecnlnpgghmbaaDoor
