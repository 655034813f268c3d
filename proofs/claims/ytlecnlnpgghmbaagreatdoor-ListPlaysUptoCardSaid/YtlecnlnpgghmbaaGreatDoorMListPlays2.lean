/- The row of the law ListPlays, and its card: for every input of at most 1048576 values and letters the Go function returns true and its arguments read as before, out of the walk listPlays_walk. The library's variables that the row lists hold what the program's text lays (the card's tie, given). -/
import Derived.Test.YtlecnlnpgghmbaaGreatDoorMListPlays1
import Derived.Test.YtlecnlnpgghmbaaGreatDoorRows
import Derived.Test.YtlecnlnpgghmbaaGreatDoorMZ3
import Derived.Lib.SmallJoins
import Derived.Test.YtlecnlnpgghmbaaGreatDoorMZ1
import Derived.Stop.LaidErr
import Derived.Lib.LaidTab
import Derived.LaidLaws
import Derived.Test.YtlecnlnpgghmbaaGreatDoorCards
import Derived.Test.YtlecnlnpgghmbaaGreatDoorTie
import Derived.WalkKit
import Derived.ProofKit
import Derived.OpenShut
import Derived.ShutString
import Derived.ChangeOld
import Derived.Below
import Derived.SizedLaws
import Derived.Laws.Cover2
import Derived.Deep.Slices
import Derived.Deep.SlicePairs
import Derived.SliceStrings
import Derived.JoinedCond
import Derived.Deep.DeepHandedRow
/- The law ListPlays: two sides that answer alike; asked, looks. (Printed by gen_lpl3.py.) -/
namespace Go.Proofs.YtlecnlnpgghmbaaGreatDoor
set_option linter.unusedVariables false
set_option linter.unusedSimpArgs false
open Go.RowKit
/-- What stands behind a step: the sides stand, with new blocks at most; only theirs have been written. -/
def Kept2 (Inv : (Nat → Prop) → World → Prop) (U : Nat → Prop) (w w2 : World) : Prop := (∃ U', Inv U' w2 ∧ Fresh w U U') ∧ Chg U w w2
/-- Two calls, one behind the other, that answer alike. -/
def Both2 (Inv : (Nat → Prop) → World → Prop) (U : Nat → Prop) (w : World) (f : FuncId) (x : Array Value) (g : FuncId) (y : Array Value) (A : Value → Prop) : Prop :=
  Calls Tryz.prog f x w fun e w1 => ∃ v, A v ∧ e = .returned v ∧ Chg U w w1 ∧ Calls Tryz.prog g y w1 fun e2 w2 => e2 = .returned v ∧ Kept2 Inv U w w2
def IsInt (v : Value) : Prop := ∃ c : Int, v = .int .i64 c
def IsTold (v : Value) : Prop := ∃ s b, v = .tuple #[.string s, .bool b]
def IsBool (v : Value) : Prop := ∃ b, v = .bool b
abbrev i64ok (x : Int) : Prop := -9223372036854775808 ≤ x ∧ x ≤ 9223372036854775807
structure Sides (w0 : World) (pl pr : Value) (Inv : (Nat → Prop) → World → Prop) : Prop where
  base : ∀ {U w}, Inv U w → Base w0 w ∧ ∀ k, U k → w0.heap.size ≤ k ∧ k < w.heap.size
  below : ∀ {U w w'}, Inv U w → Below w.heap.size w w' → Inv U w'
  push : ∀ {U w}, Inv U w → ∀ (front : Bool) (s : ByteArray), s.size ≤ 1048576 → Both2 Inv U w 19 #[pl, .bool front, .string s] 23 #[pr, .bool front, .string s] IsInt
  pop : ∀ {U w}, Inv U w → ∀ (front : Bool), Both2 Inv U w 24 #[pl, .bool front] 25 #[pr, .bool front] IsTold
  set : ∀ {U w}, Inv U w → ∀ (x : Int) (s : ByteArray), i64ok x → s.size ≤ 1048576 → Both2 Inv U w 26 #[pl, .int .i64 x, .string s] 27 #[pr, .int .i64 x, .string s] IsInt
  range : ∀ {U w}, Inv U w → ∀ (x y : Int), i64ok x → i64ok y → Calls Tryz.prog 14 #[pl, .int .i64 x, .int .i64 y] w fun e w1 => ∃ (a : Option Addr) (n c : Nat) (T : List ByteArray), e = .returned (.slice a n c) ∧ SliceIs w1 w.heap.size 9 (.slice a n c) n (T.map strV) ∧ n ≤ 1048576 ∧ Below w.heap.size w w1 ∧
    Calls Tryz.prog 17 #[pr, .int .i64 x, .int .i64 y] w1 fun e2 w2 => ∃ (a' : Option Addr) (c' : Nat), e2 = .returned (.slice a' n c') ∧ ArgRow w1 a' n c' (fun i => .string (T.getD i ByteArray.empty)) ∧ w1 = w2
  trim : ∀ {U w}, Inv U w → ∀ (x y : Int), i64ok x → i64ok y → Calls Tryz.prog 28 #[pl, .int .i64 x, .int .i64 y] w fun e w1 => (∃ v, e = .returned v) ∧ Chg U w w1 ∧ Calls Tryz.prog 29 #[pr, .int .i64 x, .int .i64 y] w1 fun e2 w2 => (∃ v, e2 = .returned v) ∧ Kept2 Inv U w w2
  remove : ∀ {U w}, Inv U w → ∀ (c : Int) (s : ByteArray), i64ok c → Both2 Inv U w 30 #[pl, .int .i64 c, .string s] 31 #[pr, .int .i64 c, .string s] IsInt
  get : ∀ {U w}, Inv U w → ∀ (x : Int), i64ok x → Both2 Inv U w 32 #[pl, .int .i64 x] 33 #[pr, .int .i64 x] IsTold
  len : ∀ {U w}, Inv U w → Both2 Inv U w 34 #[pl] 35 #[pr] IsInt
  small : ∀ {U w}, Inv U w → Both2 Inv U w 36 #[pl] 37 #[pr] IsBool
  charge : ∀ {U w}, Inv U w → Both2 Inv U w 38 #[pl] 39 #[pr] IsInt
theorem Kept2.start {Inv : (Nat → Prop) → World → Prop} {U : Nat → Prop} {w w1 w2 : World} (hb : Below w.heap.size w w1) (h : Kept2 Inv U w1 w2) : Kept2 Inv U w w2 := by
  obtain ⟨⟨U', h1, h2⟩, h3⟩ := h
  exact ⟨⟨U', h1, fun k hk => (h2 k hk).imp id fun h => Nat.le_trans hb.size h⟩, (Chg.of_below U hb).trans h3 fun k hk _ => hk⟩
theorem Kept2.trans {Inv : (Nat → Prop) → World → Prop} {U : Nat → Prop} {w w1 w2 : World} {U1 : Nat → Prop} (hf : Fresh w U U1) (hc : Chg U w w1) (h : Kept2 Inv U1 w1 w2) : Kept2 Inv U w w2 := by
  obtain ⟨⟨U', h1, h2⟩, h3⟩ := h
  have := two_steps hf hc h2 h3
  exact ⟨⟨U', h1, this.1⟩, this.2⟩
set_option maxHeartbeats 3200000 in
set_option maxRecDepth 100000 in
theorem looks_any {w0 : World} {pl pr : Value} {Inv : (Nat → Prop) → World → Prop} (S : Sides w0 pl pr Inv) {U : Nat → Prop} {w : World} (h : Inv U w) :
    Calls Tryz.prog 13 #[pl, pr] w fun e w' => e = .returned (.bool true) ∧ Kept2 Inv U w w' := by
  have H1 := Lib.hid (S.len h)
  have HS := Lib.hid S
  clear S h
  go_enter Tryz.func13, Tryz.ntmps13
  go_wp2_with fail
  unfold Both2 at H1
  refine H1.out.mono ?_
  rintro e w1 ⟨v, ⟨c, rfl⟩, rfl, c1, hr⟩
  have HR := Lib.hid hr
  clear hr c1 H1
  go_wp2_with fail
  refine HR.out.mono ?_
  rintro e w2 ⟨rfl, ⟨U2, i2, f2⟩, c2⟩
  have H2 := Lib.hid (HS.out.small i2)
  have HK := Lib.hid (And.intro f2 c2)
  clear i2 f2 c2 HR
  go_wp2_with fail
  unfold Both2 at H2
  refine H2.out.mono ?_
  rintro e w3 ⟨v, ⟨b, rfl⟩, rfl, c3, hr⟩
  have HR := Lib.hid hr
  clear hr c3 H2
  go_wp2_with fail
  refine HR.out.mono ?_
  rintro e w4 ⟨rfl, ⟨U4, i4, f4⟩, c4⟩
  have H3 := Lib.hid (HS.out.charge i4)
  have HK4 := Lib.hid (two_steps HK.out.1 HK.out.2 f4 c4)
  clear i4 f4 c4 HR
  go_wp2_with fail
  unfold Both2 at H3
  refine H3.out.mono ?_
  rintro e w5 ⟨v, ⟨c, rfl⟩, rfl, c5, hr⟩
  have HR := Lib.hid hr
  clear hr c5 H3
  go_wp2_with fail
  refine HR.out.mono ?_
  rintro e w6 ⟨rfl, hk⟩
  have HK6 := Lib.hid (Kept2.trans HK4.out.1 HK4.out.2 hk)
  clear hk
  go_wp2_with fail
  go_ret
  exact ⟨rfl, HK6.out⟩
set_option maxHeartbeats 6400000 in
set_option maxRecDepth 100000 in
theorem asked_list {w0 : World} {pl pr : Value} {Inv : (Nat → Prop) → World → Prop} (S : Sides w0 pl pr Inv) {U : Nat → Prop} {w : World} (h : Inv U w) (K : Int) (hK : 0 ≤ K ∧ K ≤ 255) (fr : Bool) (A N : Int) (hA : i64ok A) (hN : i64ok N) (s : ByteArray) (hs : s.size ≤ 1048576) :
    Calls Tryz.prog 12 #[pl, pr, .agg #[.int .u8 K, .bool fr, .int .i64 A, .int .i64 N, .string s]] w fun e w' => e = .returned (.bool true) ∧ Kept2 Inv U w w' := by
  obtain ⟨w1, hw1⟩ : ∃ w1, w1 = w.alloc (.cells #[.int .u8 K, .bool fr, .int .i64 A, .int .i64 N, .string s] 54) := ⟨_, rfl⟩
  have hb1 : Below w.heap.size w w1 := by rw [hw1]; exact (Below.refl _ _).alloc (Nat.le_refl _) _
  have hh1 : w1.heap[w.heap.size]? = some (.cells #[.int .u8 K, .bool fr, .int .i64 A, .int .i64 N, .string s] 54 (0, 0)) := by rw [hw1]; exact heap_new _ _
  have h1 := S.below h hb1
  have hUlt : ∀ k, U k → k ≠ w.heap.size := fun k hk => by have := ((S.base h).2 k hk).2; omega
  have hd1 : Below w1.heap.size w1 w1.drew := belowN (Below.refl _ _) 1
  have h1d := S.below h1 hd1
  have HKp := Lib.hid (show ∀ w', Kept2 Inv U w1 w' → Kept2 Inv U w w' from fun w' hk => hk.start hb1)
  have HKd := Lib.hid (show ∀ w', Kept2 Inv U w1.drew w' → Kept2 Inv U w w' from fun w' hk => (hk.start hd1).start hb1)
  have HC := Lib.hid (show ∀ w2, Chg U w1 w2 → w2.heap[w.heap.size]? = some (.cells #[.int .u8 K, .bool fr, .int .i64 A, .int .i64 N, .string s] 54 (0, 0)) from fun w2 hc => hc.keep hh1 fun hk => hUlt _ hk rfl)
  have HI := Lib.hid (And.intro h1 (And.intro h1d S))
  have a0 := cell_in hh1 (i := 0) rfl
  have HH1 := Lib.hid hh1
  have HW := Lib.hid hw1
  have HX := Lib.hid (And.intro hA (And.intro hN hs))
  clear h S hw1 hb1 h1 hUlt hd1 h1d hh1

  by_cases hk1 : K = 1
  · subst hk1
    have HCl := Lib.hid (HI.out.2.2.push HI.out.2.1 fr s HX.out.2.2)
    unfold Both2 at HCl
    obtain ⟨X1, f, hX1, hff, hF⟩ := classOf (fun y => y.heap[w.heap.size]? = some (.cells #[.int .u8 1, .bool fr, .int .i64 A, .int .i64 N, .string s] 54 (0, 0))) (w := w1.drew) HH1.out
    have hf1 := fun x => cell_in (hff x) (i := 1) rfl
    have hf2 := fun x => cell_in (hff x) (i := 2) rfl
    have hf3 := fun x => cell_in (hff x) (i := 3) rfl
    have hf4 := fun x => cell_in (hff x) (i := 4) rfl
    have H0 := Lib.hid (hF w1.drew HH1.out)
    have HFc := Lib.hid (fun (w2 : World) (hc : Chg U w1.drew w2) => hF w2 (HC.out w2 ((Chg.drew U w1).trans hc fun k hk _ => hk)))
    clear hff hF
    go_enter Tryz.func12, Tryz.ntmps12
    go_upto_region 1 with (fail)
    rw [← HW.out]
    go_wp2_with fail
    refine wp_region_text ⟨[5, 11], [12, 13], 11⟩ (fun w' => ∃ x : X1, w' = f x) (by kernel_rfl) (by kernel_rfl) H0.out ?_
    refine wpC_seg false (H0.out) 5 0 _ _ (by rfl) (by rfl) ?_
    simp only [List.take_succ_cons, List.take_zero, List.drop_succ_cons, List.drop_zero, Bool.false_eq_true, if_false, Nat.zero_add, Nat.reduceAdd]
    repeat (go_big_quiet_step (fail))
    refine wpQuiet_nil ?_
    refine wpC_loud (by rfl) (by rfl) fun K hK => ?_
    go_wp2_with fail
    refine HCl.out.mono ?_
    rintro e w2 ⟨v, ⟨c, rfl⟩, rfl, c2, hr⟩
    have HR := Lib.hid hr
    have H2 := Lib.hid (HFc.out w2 c2)
    refine hK _ _ (fun _ => H2.out) ?_
    clear hK hr c2
    refine wpC_seg false (H2.out) 5 6 _ _ (by rfl) (by rfl) ?_
    simp only [List.take_succ_cons, List.take_zero, List.drop_succ_cons, List.drop_zero, Bool.false_eq_true, if_false, Nat.zero_add, Nat.reduceAdd]
    repeat (go_big_quiet_step (fail))
    refine wpQuiet_nil ?_
    refine wpC_loud (by rfl) (by rfl) fun K hK => ?_
    go_wp2_with fail
    refine HR.out.mono ?_
    rintro e w3 ⟨rfl, hk⟩
    have HE := Lib.hid (HKd.out w3 hk)
    refine hK _ _ (fun h => absurd h (by decide)) ?_
    clear hK hk
    refine wpC_segD 2 12 _ _ (by rfl) (by rfl) ?_
    simp only [List.take_succ_cons, List.take_zero, List.drop_succ_cons, List.drop_zero, if_true, Nat.zero_add, Nat.reduceAdd]
    repeat (go_big_quiet_step (fail))
    refine wpQuiet_nil ?_
    refine wpC_nil ?_
    clear hf1 hf2 hf3 hf4 hX1 H0 H2
    go_wp2_with fail
    go_ret
    exact ⟨rfl, HE.out⟩
  · have nk1 : (K == 1) = false := by rw [beq_eq_false_iff_ne]; exact hk1
    clear hk1
    by_cases hk2 : K = 2
    · subst hk2
      have HCl := Lib.hid (HI.out.2.2.pop HI.out.1 fr)
      unfold Both2 at HCl
      have x1 := cell_in HH1.out (i := 1) rfl
      have x2 := cell_in HH1.out (i := 2) rfl
      go_enter Tryz.func12, Tryz.ntmps12
      go_upto_region 1 with (fail)
      rw [← HW.out]
      go_wp2_with fail
      refine HCl.out.mono ?_
      rintro e w2 ⟨v, ⟨t, b, rfl⟩, rfl, c2, hr⟩
      have HR := Lib.hid hr
      have hh2 := HC.out w2 c2
      have z1 := cell_in hh2 (i := 1) rfl
      have z2 := cell_in hh2 (i := 2) rfl
      clear hr c2 hh2
      go_wp2_with fail
      refine HR.out.mono ?_
      rintro e w3 ⟨rfl, hk⟩
      have HE := Lib.hid (HKp.out w3 hk)
      clear hk
      cases b
      all_goals
        go_wp2_with fail
        go_ret
        exact ⟨rfl, HE.out⟩
    · have nk2 : (K == 2) = false := by rw [beq_eq_false_iff_ne]; exact hk2
      clear hk2
      by_cases hk3 : K = 3
      · subst hk3
        have HCl := Lib.hid (HI.out.2.2.set HI.out.2.1 A s HX.out.1 HX.out.2.2)
        unfold Both2 at HCl
        obtain ⟨X1, f, hX1, hff, hF⟩ := classOf (fun y => y.heap[w.heap.size]? = some (.cells #[.int .u8 3, .bool fr, .int .i64 A, .int .i64 N, .string s] 54 (0, 0))) (w := w1.drew) HH1.out
        have hf1 := fun x => cell_in (hff x) (i := 1) rfl
        have hf2 := fun x => cell_in (hff x) (i := 2) rfl
        have hf3 := fun x => cell_in (hff x) (i := 3) rfl
        have hf4 := fun x => cell_in (hff x) (i := 4) rfl
        have H0 := Lib.hid (hF w1.drew HH1.out)
        have HFc := Lib.hid (fun (w2 : World) (hc : Chg U w1.drew w2) => hF w2 (HC.out w2 ((Chg.drew U w1).trans hc fun k hk _ => hk)))
        clear hff hF
        go_enter Tryz.func12, Tryz.ntmps12
        go_upto_region 1 with (fail)
        rw [← HW.out]
        go_wp2_with fail
        refine wp_region_text ⟨[5, 11], [12, 13], 11⟩ (fun w' => ∃ x : X1, w' = f x) (by kernel_rfl) (by kernel_rfl) H0.out ?_
        refine wpC_seg false (H0.out) 5 0 _ _ (by rfl) (by rfl) ?_
        simp only [List.take_succ_cons, List.take_zero, List.drop_succ_cons, List.drop_zero, Bool.false_eq_true, if_false, Nat.zero_add, Nat.reduceAdd]
        repeat (go_big_quiet_step (fail))
        refine wpQuiet_nil ?_
        refine wpC_loud (by rfl) (by rfl) fun K hK => ?_
        go_wp2_with fail
        refine HCl.out.mono ?_
        rintro e w2 ⟨v, ⟨c, rfl⟩, rfl, c2, hr⟩
        have HR := Lib.hid hr
        have H2 := Lib.hid (HFc.out w2 c2)
        refine hK _ _ (fun _ => H2.out) ?_
        clear hK hr c2
        refine wpC_seg false (H2.out) 5 6 _ _ (by rfl) (by rfl) ?_
        simp only [List.take_succ_cons, List.take_zero, List.drop_succ_cons, List.drop_zero, Bool.false_eq_true, if_false, Nat.zero_add, Nat.reduceAdd]
        repeat (go_big_quiet_step (fail))
        refine wpQuiet_nil ?_
        refine wpC_loud (by rfl) (by rfl) fun K hK => ?_
        go_wp2_with fail
        refine HR.out.mono ?_
        rintro e w3 ⟨rfl, hk⟩
        have HE := Lib.hid (HKd.out w3 hk)
        refine hK _ _ (fun h => absurd h (by decide)) ?_
        clear hK hk
        refine wpC_segD 2 12 _ _ (by rfl) (by rfl) ?_
        simp only [List.take_succ_cons, List.take_zero, List.drop_succ_cons, List.drop_zero, if_true, Nat.zero_add, Nat.reduceAdd]
        repeat (go_big_quiet_step (fail))
        refine wpQuiet_nil ?_
        refine wpC_nil ?_
        clear hf1 hf2 hf3 hf4 hX1 H0 H2
        go_wp2_with fail
        go_ret
        exact ⟨rfl, HE.out⟩
      · have nk3 : (K == 3) = false := by rw [beq_eq_false_iff_ne]; exact hk3
        clear hk3
        by_cases hk4 : K = 4
        · subst hk4
          have HCl := Lib.hid (HI.out.2.2.range HI.out.2.1 A N HX.out.1 HX.out.2.1)
          obtain ⟨X1, f, hX1, hff, hF⟩ := classOf (fun y => y.heap[w.heap.size]? = some (.cells #[.int .u8 4, .bool fr, .int .i64 A, .int .i64 N, .string s] 54 (0, 0))) (w := w1.drew) HH1.out
          have hf1 := fun x => cell_in (hff x) (i := 1) rfl
          have hf2 := fun x => cell_in (hff x) (i := 2) rfl
          have hf3 := fun x => cell_in (hff x) (i := 3) rfl
          have hf4 := fun x => cell_in (hff x) (i := 4) rfl
          have H0 := Lib.hid (hF w1.drew HH1.out)
          have HFc := Lib.hid (fun (w2 : World) (hc : Chg U w1.drew w2) => hF w2 (HC.out w2 ((Chg.drew U w1).trans hc fun k hk _ => hk)))
          clear hff hF
          go_enter Tryz.func12, Tryz.ntmps12
          go_upto_region 1 with (fail)
          rw [← HW.out]
          go_wp2_with fail
          refine wp_region_text ⟨[5, 11, 12], [13], 12⟩ (fun w' => ∃ x : X1, w' = f x) (by kernel_rfl) (by kernel_rfl) H0.out ?_
          refine wpC_seg false (H0.out) 5 0 _ _ (by rfl) (by rfl) ?_
          simp only [List.take_succ_cons, List.take_zero, List.drop_succ_cons, List.drop_zero, Bool.false_eq_true, if_false, Nat.zero_add, Nat.reduceAdd]
          repeat (go_big_quiet_step (fail))
          refine wpQuiet_nil ?_
          refine wpC_loud (by rfl) (by rfl) fun K hK => ?_
          go_wp2_with fail
          refine HCl.out.mono ?_
          rintro e w2 ⟨ra, n, rc, T, rfl, hs, hn, b2, hr⟩
          obtain ⟨av, cv, e2, harg⟩ := texts_of_slice hs
          cases e2
          have hTl : T.length = n := by simpa using hs.1
          have HR := Lib.hid hr
          have HT := Lib.hid (And.intro harg (And.intro hTl (And.intro hn b2)))
          have H2 := Lib.hid (HFc.out w2 (Chg.of_below U b2))
          refine hK _ _ (fun _ => H2.out) ?_
          clear hK hr hs b2 harg hTl
          refine wpC_seg false (H2.out) 5 6 _ _ (by rfl) (by rfl) ?_
          simp only [List.take_succ_cons, List.take_zero, List.drop_succ_cons, List.drop_zero, Bool.false_eq_true, if_false, Nat.zero_add, Nat.reduceAdd]
          repeat (go_big_quiet_step (fail))
          refine wpQuiet_nil ?_
          refine wpC_loud (by rfl) (by rfl) fun K hK => ?_
          go_wp2_with fail
          refine HR.out.mono ?_
          rintro e w3 ⟨a', c', rfl, harg2, rfl⟩
          have HSm := Lib.hid (sameTexts_any w2 ra a' n n rc c' T T HT.out.2.1 HT.out.2.1 HT.out.1 harg2 (by have := HT.out.2.2.1; omega))
          rw [decide_eq_true rfl] at HSm
          refine hK _ _ (fun _ => H2.out) ?_
          clear hK harg2
          refine wpC_loud (by rfl) (by rfl) fun K hK => ?_
          go_wp2_with fail
          refine HSm.out.mono ?_
          rintro e w3 ⟨rfl, d, hw3⟩
          have HE := Lib.hid (show Kept2 Inv U w w3 from by
            have hb : Below w1.drew.heap.size w1.drew w3 := by rw [hw3]; exact belowN HT.out.2.2.2 _
            refine HKd.out w3 ⟨⟨U, HI.out.2.2.below HI.out.2.1 hb, fun k hk => .inl hk⟩, Chg.of_below U hb⟩)
          refine hK _ _ (fun h => absurd h (by decide)) ?_
          clear hK hw3
          refine wpC_segD 1 13 _ _ (by rfl) (by rfl) ?_
          simp only [List.take_succ_cons, List.take_zero, List.drop_succ_cons, List.drop_zero, if_true, Nat.zero_add, Nat.reduceAdd]
          repeat (go_big_quiet_step (fail))
          refine wpQuiet_nil ?_
          refine wpC_nil ?_
          clear hf1 hf2 hf3 hf4 hX1 H0 H2
          go_wp2_with fail
          go_ret
          exact ⟨rfl, HE.out⟩
        · have nk4 : (K == 4) = false := by rw [beq_eq_false_iff_ne]; exact hk4
          clear hk4
          by_cases hk5 : K = 5
          · subst hk5
            have HCl := Lib.hid (HI.out.2.2.trim HI.out.1 A N HX.out.1 HX.out.2.1)
            have x2 := cell_in HH1.out (i := 2) rfl
            have x3 := cell_in HH1.out (i := 3) rfl
            go_enter Tryz.func12, Tryz.ntmps12
            go_upto_region 1 with (fail)
            rw [← HW.out]
            go_wp2_with fail
            refine HCl.out.mono ?_
            rintro e w2 ⟨⟨v, rfl⟩, c2, hr⟩
            have HR := Lib.hid hr
            have hh2 := HC.out w2 c2
            have z2 := cell_in hh2 (i := 2) rfl
            have z3 := cell_in hh2 (i := 3) rfl
            clear hr c2 hh2
            go_wp2_with fail
            refine HR.out.mono ?_
            rintro e w3 ⟨⟨v2, rfl⟩, hk⟩
            have HE := Lib.hid (HKp.out w3 hk)
            clear hk
            go_wp2_with fail
            go_ret
            exact ⟨rfl, HE.out⟩
          · have nk5 : (K == 5) = false := by rw [beq_eq_false_iff_ne]; exact hk5
            clear hk5
            by_cases hk6 : K = 6
            · subst hk6
              have HCl := Lib.hid (HI.out.2.2.remove HI.out.2.1 N s HX.out.2.1)
              unfold Both2 at HCl
              obtain ⟨X1, f, hX1, hff, hF⟩ := classOf (fun y => y.heap[w.heap.size]? = some (.cells #[.int .u8 6, .bool fr, .int .i64 A, .int .i64 N, .string s] 54 (0, 0))) (w := w1.drew) HH1.out
              have hf1 := fun x => cell_in (hff x) (i := 1) rfl
              have hf2 := fun x => cell_in (hff x) (i := 2) rfl
              have hf3 := fun x => cell_in (hff x) (i := 3) rfl
              have hf4 := fun x => cell_in (hff x) (i := 4) rfl
              have H0 := Lib.hid (hF w1.drew HH1.out)
              have HFc := Lib.hid (fun (w2 : World) (hc : Chg U w1.drew w2) => hF w2 (HC.out w2 ((Chg.drew U w1).trans hc fun k hk _ => hk)))
              clear hff hF
              go_enter Tryz.func12, Tryz.ntmps12
              go_upto_region 1 with (fail)
              rw [← HW.out]
              go_wp2_with fail
              refine wp_region_text ⟨[5, 11], [12, 13], 11⟩ (fun w' => ∃ x : X1, w' = f x) (by kernel_rfl) (by kernel_rfl) H0.out ?_
              refine wpC_seg false (H0.out) 5 0 _ _ (by rfl) (by rfl) ?_
              simp only [List.take_succ_cons, List.take_zero, List.drop_succ_cons, List.drop_zero, Bool.false_eq_true, if_false, Nat.zero_add, Nat.reduceAdd]
              repeat (go_big_quiet_step (fail))
              refine wpQuiet_nil ?_
              refine wpC_loud (by rfl) (by rfl) fun K hK => ?_
              go_wp2_with fail
              refine HCl.out.mono ?_
              rintro e w2 ⟨v, ⟨c, rfl⟩, rfl, c2, hr⟩
              have HR := Lib.hid hr
              have H2 := Lib.hid (HFc.out w2 c2)
              refine hK _ _ (fun _ => H2.out) ?_
              clear hK hr c2
              refine wpC_seg false (H2.out) 5 6 _ _ (by rfl) (by rfl) ?_
              simp only [List.take_succ_cons, List.take_zero, List.drop_succ_cons, List.drop_zero, Bool.false_eq_true, if_false, Nat.zero_add, Nat.reduceAdd]
              repeat (go_big_quiet_step (fail))
              refine wpQuiet_nil ?_
              refine wpC_loud (by rfl) (by rfl) fun K hK => ?_
              go_wp2_with fail
              refine HR.out.mono ?_
              rintro e w3 ⟨rfl, hk⟩
              have HE := Lib.hid (HKd.out w3 hk)
              refine hK _ _ (fun h => absurd h (by decide)) ?_
              clear hK hk
              refine wpC_segD 2 12 _ _ (by rfl) (by rfl) ?_
              simp only [List.take_succ_cons, List.take_zero, List.drop_succ_cons, List.drop_zero, if_true, Nat.zero_add, Nat.reduceAdd]
              repeat (go_big_quiet_step (fail))
              refine wpQuiet_nil ?_
              refine wpC_nil ?_
              clear hf1 hf2 hf3 hf4 hX1 H0 H2
              go_wp2_with fail
              go_ret
              exact ⟨rfl, HE.out⟩
            · have nk6 : (K == 6) = false := by rw [beq_eq_false_iff_ne]; exact hk6
              clear hk6
              have HCl := Lib.hid (HI.out.2.2.get HI.out.1 A HX.out.1)
              unfold Both2 at HCl
              have x1 := cell_in HH1.out (i := 1) rfl
              have x2 := cell_in HH1.out (i := 2) rfl
              go_enter Tryz.func12, Tryz.ntmps12
              go_upto_region 1 with (fail)
              rw [← HW.out]
              go_wp2_with fail
              refine HCl.out.mono ?_
              rintro e w2 ⟨v, ⟨t, b, rfl⟩, rfl, c2, hr⟩
              have HR := Lib.hid hr
              have hh2 := HC.out w2 c2
              have z1 := cell_in hh2 (i := 1) rfl
              have z2 := cell_in hh2 (i := 2) rfl
              clear hr c2 hh2
              go_wp2_with fail
              refine HR.out.mono ?_
              rintro e w3 ⟨rfl, hk⟩
              have HE := Lib.hid (HKp.out w3 hk)
              clear hk
              cases b
              all_goals
                go_wp2_with fail
                go_ret
                exact ⟨rfl, HE.out⟩
end Go.Proofs.YtlecnlnpgghmbaaGreatDoor

/- The law ListPlays: the two sides that are there, and those that are not. -/
namespace Go.Proofs.YtlecnlnpgghmbaaGreatDoor
set_option linter.unusedVariables false
set_option linter.unusedSimpArgs false
open Go.RowKit
/-- A list of the program's and the document's, of the same texts, their blocks apart. -/
def Real (w0 : World) (l r : Nat) (L : List ByteArray) (sm : Bool) (U : Nat → Prop) (w : World) : Prop :=
  ∃ F G a cap, Base w0 w ∧ ListF w l F L sm ∧ RefL w r G L sm a cap ∧ (∀ k, F k → ¬ G k) ∧ (∀ k, U k ↔ F k ∨ G k) ∧ ∀ k, U k → w0.heap.size ≤ k
def RealI (w0 : World) (l r : Nat) (U : Nat → Prop) (w : World) : Prop := ∃ L sm, Real w0 l r L sm U w
section
variable {w0 w w' : World} {l r : Nat} {L : List ByteArray} {sm : Bool} {U : Nat → Prop}
theorem Real.below (h : Real w0 l r L sm U w) (hb : Below w.heap.size w w') : Real w0 l r L sm U w' := by
  obtain ⟨F, G, a, cap, h1, h2, h3, h4, h5, h6⟩ := h
  exact ⟨F, G, a, cap, h1.below hb, h2.below hb, h3.below hb, h4, h5, h6⟩
theorem Real.chg (h : Real w0 l r L sm U w) {S : Nat → Prop} (hc : Chg S w w') (hn : ∀ k, U k → ¬ S k) (hS : ∀ k, S k → w0.heap.size ≤ k) : Real w0 l r L sm U w' := by
  obtain ⟨F, G, a, cap, h1, h2, h3, h4, h5, h6⟩ := h
  exact ⟨F, G, a, cap, h1.chg hc hS, h2.chg hc fun k hk => hn k ((h5 k).2 (.inl hk)), h3.chg hc fun k hk => hn k ((h5 k).2 (.inr hk)), h4, h5, h6⟩
theorem Real.lt (h : Real w0 l r L sm U w) {k : Nat} (hk : U k) : k < w.heap.size := by
  obtain ⟨F, G, a, cap, h1, h2, h3, h4, h5, h6⟩ := h
  rcases (h5 k).1 hk with hk | hk
  · exact h2.lt hk
  · exact h3.lt hk
/-- Behind both calls. -/
theorem real_join {w1 w2 : World} {F G : Nat → Prop} {a : Option Addr} {cap : Nat} (h1 : Base w0 w) (h2 : ListF w l F L sm) (h3 : RefL w r G L sm a cap) (h4 : ∀ k, F k → ¬ G k) (h5 : ∀ k, U k ↔ F k ∨ G k) (h6 : ∀ k, U k → w0.heap.size ≤ k)
    {L' : List ByteArray} {sm' : Bool} (hF : ∃ F', ListF w1 l F' L' sm' ∧ Fresh w F F') (c2 : Chg F w w1) (hG : ∃ G' a' cap', RefL w2 r G' L' sm' a' cap' ∧ Fresh w1 G G') (c3 : Chg G w1 w2) : Kept2 (RealI w0 l r) U w w2 := by
  obtain ⟨F', g2, f2⟩ := hF
  obtain ⟨G', a', cap', q3, f3⟩ := hG
  have g3 := h3.chg c2 fun k hk hF => h4 k hF hk
  have hUF : Chg U w w1 := c2.mono fun k hk _ => (h5 k).2 (.inl hk)
  have hFG : ∀ k, F' k → ¬ G k := fun k hk hg => by
    rcases f2 k hk with h | h
    · exact h4 k h hg
    · have := h3.lt hg; omega
  have q2 := g2.chg c3 fun k hk hg => hFG k hk hg
  refine ⟨⟨fun k => F' k ∨ G' k, ⟨L', sm', F', G', a', cap', ?_, q2, q3, ?_, fun k => Iff.rfl, ?_⟩, ?_⟩, hUF.trans c3 fun k hk _ => (h5 k).2 (.inr hk)⟩
  · exact (h1.chg hUF h6).chg c3 fun k hk => h6 k ((h5 k).2 (.inr hk))
  · intro k hk hg
    rcases f3 k hg with h | h
    · exact hFG k hk h
    · have := g2.lt hk; omega
  · rintro k (hk | hk)
    · rcases f2 k hk with h | h
      · exact h6 k ((h5 k).2 (.inl h))
      · exact Nat.le_trans h1.bel.size h
    · rcases f3 k hk with h | h
      · exact h6 k ((h5 k).2 (.inr h))
      · exact Nat.le_trans (Nat.le_trans h1.bel.size c2.size) h
  · rintro k (hk | hk)
    · rcases f2 k hk with h | h
      · exact .inl ((h5 k).2 (.inl h))
      · exact .inr h
    · rcases f3 k hk with h | h
      · exact .inl ((h5 k).2 (.inr h))
      · exact .inr (Nat.le_trans c2.size h)
/-- Both calls change what they have alike. -/
theorem real_two (h : Real w0 l r L sm U w) {f g : FuncId} {x y : Array Value} {v : Value} {L' : List ByteArray} {sm' : Bool} {A : Value → Prop} (hv : A v)
    (hl : ∀ F, Base w0 w → ListF w l F L sm → (∀ k, F k → w0.heap.size ≤ k) → Calls Tryz.prog f x w fun e w1 => e = .returned v ∧ (∃ F', ListF w1 l F' L' sm' ∧ Fresh w F F') ∧ Chg F w w1)
    (hr : ∀ w1 G a cap, RefL w1 r G L sm a cap → Calls Tryz.prog g y w1 fun e w2 => e = .returned v ∧ (∃ G' a' cap', RefL w2 r G' L' sm' a' cap' ∧ Fresh w1 G G') ∧ Chg G w1 w2) : Both2 (RealI w0 l r) U w f x g y A := by
  obtain ⟨F, G, a, cap, h1, h2, h3, h4, h5, h6⟩ := h
  refine (hl F h1 h2 fun k hk => h6 k ((h5 k).2 (.inl hk))).mono ?_
  rintro e w1 ⟨rfl, hF, c2⟩
  refine ⟨v, hv, rfl, c2.mono fun k hk _ => (h5 k).2 (.inl hk), (hr w1 G a cap (h3.chg c2 fun k hk hF => h4 k hF hk)).mono ?_⟩
  rintro e w2 ⟨rfl, hG, c3⟩
  exact ⟨rfl, real_join h1 h2 h3 h4 h5 h6 hF c2 hG c3⟩
theorem read_left {f : FuncId} {x : Array Value} {v : Value} {F : Nat → Prop} (h : ListF w l F L sm) (hc : Calls Tryz.prog f x w fun e w1 => e = .returned v ∧ Below w.heap.size w w1) : Calls Tryz.prog f x w fun e w1 => e = .returned v ∧ (∃ F', ListF w1 l F' L sm ∧ Fresh w F F') ∧ Chg F w w1 := by
  refine hc.mono ?_
  rintro e w1 ⟨rfl, b1⟩
  exact ⟨rfl, ⟨F, h.below b1, fun k hk => .inl hk⟩, Chg.of_below F b1⟩
theorem read_right {g : FuncId} {y : Array Value} {v : Value} {w1 : World} {G : Nat → Prop} {a : Option Addr} {cap : Nat} (h : RefL w1 r G L sm a cap) (hc : Calls Tryz.prog g y w1 fun e w2 => e = .returned v ∧ w1 = w2) : Calls Tryz.prog g y w1 fun e w2 => e = .returned v ∧ (∃ G' a' cap', RefL w2 r G' L sm a' cap' ∧ Fresh w1 G G') ∧ Chg G w1 w2 := by
  refine hc.mono ?_
  rintro e w2 ⟨rfl, rfl⟩
  exact ⟨rfl, ⟨G, a, cap, h, fun k hk => .inl hk⟩, Chg.refl _ _⟩
theorem calls_same {f : FuncId} {x : Array Value} {v : Value} (h : Calls Tryz.prog f x w fun e w1 => e = .returned v ∧ w = w1) : Calls Tryz.prog f x w fun e w1 => e = .returned v ∧ Below w.heap.size w w1 := by
  refine h.mono ?_
  rintro e w1 ⟨rfl, rfl⟩
  exact ⟨rfl, Below.refl _ _⟩
end
theorem qget_told (L : List ByteArray) (x : Int) : IsTold (qgetV L x) := ⟨_, _, rfl⟩
theorem real_sides (w0 : World) (l r : Nat) : Sides w0 (pv l) (pv r) (RealI w0 l r) where
  base := by
    rintro U w ⟨L, sm, h⟩
    have h' := h
    obtain ⟨F, G, a, cap, h1, h2, h3, h4, h5, h6⟩ := h
    exact ⟨h1, fun k hk => ⟨h6 k hk, h'.lt hk⟩⟩
  below := by
    rintro U w w' ⟨L, sm, h⟩ hb
    exact ⟨L, sm, h.below hb⟩
  push := by
    rintro U w ⟨L, sm, h⟩ front s hs
    exact real_two h ⟨_, rfl⟩ (fun F hB hL kF => pushL_any hB.laid hB.bel hB.bel.size hL kF front s (by omega)) fun w1 G a cap hR => refPushL hR front s (by omega)
  pop := by
    rintro U w ⟨L, sm, h⟩ front
    rcases Nat.eq_zero_or_pos L.length with h0 | h0
    · have e : L = [] := List.eq_nil_of_length_eq_zero h0
      subst e
      exact real_two h ⟨_, _, rfl⟩ (fun F hB hL kF => read_left hL (calls_same (popL_none hL front))) fun w1 G a cap hR => read_right hR (refPopNone hR front)
    · exact real_two h ⟨_, _, rfl⟩ (fun F hB hL kF => popL hB.laid hB.bel hB.bel.size hL kF front h0) fun w1 G a cap hR => refPopL hR front h0
  set := by
    rintro U w ⟨L, sm, h⟩ x s hx hs
    exact real_two h ⟨_, rfl⟩ (fun F hB hL kF => setL hB.laid hB.bel hB.bel.size hL kF x hx s (by omega)) fun w1 G a cap hR => refSetL hR x hx s (by omega)
  range := by
    rintro U w ⟨L, sm, F, G, a, cap, h1, h2, h3, h4, h5, h6⟩ x y hx hy
    have hf := h2.few
    refine (rangeL h1.now h2 x y hx hy).mono ?_
    rintro e w1 ⟨⟨v, rfl, s1⟩, b1⟩
    obtain ⟨av, cv, rfl, _⟩ := s1.arg
    refine ⟨av, _, cv, rngL L x y, rfl, s1, by have := rngL_len_le L x y; omega, b1, (refRangeL (h3.below b1) x y hx hy).mono ?_⟩
    rintro e2 w2 ⟨⟨v2, rfl, a', cap', rfl, hA⟩, rfl⟩
    exact ⟨a', cap', rfl, (hA (h3.below b1).row).1, rfl⟩
  trim := by
    rintro U w ⟨L, sm, h⟩ x y hx hy
    obtain ⟨F, G, a, cap, h1, h2, h3, h4, h5, h6⟩ := h
    refine (trimL h1.laid h1.bel h1.bel.size h2 (fun k hk => h6 k ((h5 k).2 (.inl hk))) x y hx hy).mono ?_
    rintro e w1 ⟨⟨v, rfl⟩, hF, c2⟩
    refine ⟨⟨v, rfl⟩, c2.mono fun k hk _ => (h5 k).2 (.inl hk), ?_⟩
    refine (refTrimL (h3.chg c2 fun k hk hF => h4 k hF hk) x y hx hy).mono ?_
    rintro e2 w2 ⟨⟨v2, rfl⟩, hG, c3⟩
    exact ⟨⟨v2, rfl⟩, real_join h1 h2 h3 h4 h5 h6 hF c2 hG c3⟩
  remove := by
    rintro U w ⟨L, sm, h⟩ c s hc
    exact real_two h ⟨_, rfl⟩ (fun F hB hL kF => removeL hB.laid hB.bel hB.bel.size hL kF c hc s) fun w1 G a cap hR => refRemoveL hR c hc s
  get := by
    rintro U w ⟨L, sm, h⟩ x hx
    exact real_two h (qget_told L x) (fun F hB hL kF => read_left hL (by obtain ⟨v, Fr, h⟩ := hL; exact getL h hB.now x hx)) fun w1 G a cap hR => read_right hR (refGetL hR x hx)
  len := by
    rintro U w ⟨L, sm, h⟩
    exact real_two h ⟨_, rfl⟩ (fun F hB hL kF => read_left hL (calls_same (by obtain ⟨v, Fr, h⟩ := hL; exact lenL h))) fun w1 G a cap hR => read_right hR (refLenL hR)
  small := by
    rintro U w ⟨L, sm, h⟩
    exact real_two h ⟨_, rfl⟩ (fun F hB hL kF => read_left hL (by obtain ⟨v, Fr, h⟩ := hL; exact smallL h)) fun w1 G a cap hR => read_right hR (refSmallL hR)
  charge := by
    rintro U w ⟨L, sm, h⟩
    obtain ⟨F, G, a, cap, h1, h2, h3, h4, h5, h6⟩ := h
    have hz := fun s hs => h2.size (s := s) hs
    exact real_two ⟨F, G, a, cap, h1, h2, h3, h4, h5, h6⟩ ⟨_, rfl⟩ (fun F hB hL kF => read_left hL (chargeL hB.now hL)) fun w1 G a cap hR => read_right hR (refChargeL hR hz)
/-- The sides that are not there. -/
def GoneI (w0 : World) (p : Value) (U : Nat → Prop) (w : World) : Prop := Base w0 w ∧ GoneP w p ∧ ∀ k, ¬ U k
theorem gone_keep {w0 w : World} {p : Value} {U : Nat → Prop} (h : GoneI w0 p U w) : Kept2 (GoneI w0 p) U w w := ⟨⟨U, h, fun k hk => .inl hk⟩, Chg.refl _ _⟩
theorem gone_two {w0 w : World} {p : Value} {U : Nat → Prop} (h : GoneI w0 p U w) {f g : FuncId} {x y : Array Value} {v : Value} {A : Value → Prop} (hv : A v)
    (hl : Calls Tryz.prog f x w fun e w1 => e = .returned v ∧ w = w1) (hr : Calls Tryz.prog g y w fun e w2 => e = .returned v ∧ w = w2) : Both2 (GoneI w0 p) U w f x g y A := by
  refine hl.mono ?_
  rintro e w1 ⟨rfl, rfl⟩
  refine ⟨v, hv, rfl, Chg.refl _ _, hr.mono ?_⟩
  rintro e w2 ⟨rfl, rfl⟩
  exact ⟨rfl, gone_keep h⟩
theorem gone_sides (w0 : World) (p : Value) : Sides w0 p (.pointer none) (GoneI w0 p) where
  base := fun {U w} h => ⟨h.1, fun k hk => absurd hk (h.2.2 k)⟩
  below := fun {U w w'} h hb => ⟨h.1.below hb, h.2.1.chg (Chg.of_below (fun _ => False) hb) fun _ _ => id, h.2.2⟩
  push := fun {U w} h front s hs => gone_two h ⟨_, rfl⟩ (push_no h.2.1 front s) (refPush_no w front s)
  pop := fun {U w} h front => gone_two h ⟨_, _, rfl⟩ (pop_no h.2.1 front) (refPop_no w front)
  set := fun {U w} h x s hx hs => gone_two h ⟨_, rfl⟩ (set_no h.2.1 x s) (refSet_no w x s)
  range := fun {U w} h x y hx hy => by
    refine (range_no h.2.1 x y hx hy).mono ?_
    rintro e w1 ⟨rfl, rfl⟩
    refine ⟨none, 0, 0, [], rfl, SliceIs.nil _ _ _, by omega, Below.refl _ _, (refRange_no w x y hx hy).mono ?_⟩
    rintro e2 w2 ⟨rfl, rfl⟩
    exact ⟨none, 0, rfl, ⟨Nat.le_refl _, .inl rfl⟩, rfl⟩
  trim := fun {U w} h x y hx hy => by
    refine (trim_no h.2.1 x y).mono ?_
    rintro e w1 ⟨⟨v, rfl⟩, rfl⟩
    refine ⟨⟨v, rfl⟩, Chg.refl _ _, (refTrim_no w x y).mono ?_⟩
    rintro e2 w2 ⟨⟨v2, rfl⟩, rfl⟩
    exact ⟨⟨v2, rfl⟩, gone_keep h⟩
  remove := fun {U w} h c s hc => gone_two h ⟨_, rfl⟩ (remove_no h.2.1 c s) (refRemove_no w c s)
  get := fun {U w} h x hx => gone_two h ⟨_, _, rfl⟩ (get_no h.2.1 x) (refGet_no w x hx)
  len := fun {U w} h => gone_two h ⟨_, rfl⟩ (len_no h.2.1) (refLen_no w)
  small := fun {U w} h => gone_two h ⟨_, rfl⟩ (small_no h.2.1) (refSmall_no w)
  charge := fun {U w} h => gone_two h ⟨_, rfl⟩ (charge_no h.2.1) (refCharge_no w)
end Go.Proofs.YtlecnlnpgghmbaaGreatDoor

/- opening a script of ops {a kind, a bool, two numbers, a text} that came in. -/
namespace Go.Proofs.YtlecnlnpgghmbaaGreatDoor
set_option linter.unusedVariables false
set_option linter.unusedSimpArgs false
open Go.RowKit Go.ChangeShapes Go.WideShapes Go.Deep
structure OplN where
  k : Int
  f : Bool
  a : Int
  n : Int
  s : ByteArray
instance : Inhabited OplN := ⟨⟨0, false, 0, 0, ByteArray.empty⟩⟩
def OplN.ok (A : OplN) : Prop := (0 ≤ A.k ∧ A.k ≤ 255) ∧ (-9223372036854775808 ≤ A.a ∧ A.a ≤ 9223372036854775807) ∧ (-9223372036854775808 ≤ A.n ∧ A.n ≤ 9223372036854775807)
/-- The cells of a script. -/
def OplRow (w : World) (a : Option Addr) (len cap : Nat) (Q : List OplN) : Prop :=
  Q.length = len ∧ len ≤ cap ∧ (len = 0 ∨ ∃ b o, a = some ⟨b, o, none⟩ ∧ ∀ i (hi : i < Q.length), w.cell? ⟨b, o + i * 5, none⟩ = some (.int .u8 Q[i].k) ∧ w.cell? ⟨b, o + i * 5 + 1, none⟩ = some (.bool Q[i].f) ∧ w.cell? ⟨b, o + i * 5 + 2, none⟩ = some (.int .i64 Q[i].a) ∧ w.cell? ⟨b, o + i * 5 + 3, none⟩ = some (.int .i64 Q[i].n) ∧ w.cell? ⟨b, o + i * 5 + 4, none⟩ = some (.string Q[i].s))
def totalP (Q : List OplN) : Nat := (Q.map fun A => 1 + A.s.size).sum
section
variable {H : Type} {enc : TypeId × Value → H} {w : World} {base : Nat} {spare : Nat → Bool} {held : Bool} {fuel : Nat}
theorem len5q {α : Type} {l : List α} (h : l.length = 5) : ∃ a b c d e, l = [a, b, c, d, e] := by
  match l, h with
  | [a, b, c, d, e], _ => exact ⟨a, b, c, d, e, rfl⟩
theorem trod_struct5 {P : Program} {t : TypeId} {f0 f1 f2 f3 f4 : Field} {cs : List Value} {x : DataW H × List MemPlace} (ht : P.underlying t = some (.struct #[f0, f1, f2, f3, f4])) (h : DataW.trod enc P w base spare held fuel t cs = some x) :
    ∃ y0 y1 y2 y3 y4 n, x = (.agg [y0.1, y1.1, y2.1, y3.1, y4.1], y0.2 ++ (y1.2 ++ (y2.2 ++ (y3.2 ++ y4.2)))) ∧ cs.length = P.cellsOf t ∧ DataW.trod enc P w base spare held n f0.type ((cs.drop f0.offset).take (P.cellsOf f0.type)) = some y0 ∧
      DataW.trod enc P w base spare held n f1.type ((cs.drop f1.offset).take (P.cellsOf f1.type)) = some y1 ∧ DataW.trod enc P w base spare held n f2.type ((cs.drop f2.offset).take (P.cellsOf f2.type)) = some y2 ∧
      DataW.trod enc P w base spare held n f3.type ((cs.drop f3.offset).take (P.cellsOf f3.type)) = some y3 ∧ DataW.trod enc P w base spare held n f4.type ((cs.drop f4.offset).take (P.cellsOf f4.type)) = some y4 := by
  obtain ⟨xs, n, _, rfl, hl, hlen, hf⟩ := DataW.trod_struct ht h
  match xs, hlen with
  | [y0, y1, y2, y3, y4], _ => exact ⟨y0, y1, y2, y3, y4, n, by simp, hl, by simpa using hf 0 f0 rfl, by simpa using hf 1 f1 rfl, by simpa using hf 2 f2 rfl, by simpa using hf 3 f3 rfl, by simpa using hf 4 f4 rfl⟩
theorem open_opl {cs : List Value} {x : DataW H × List MemPlace} (h : DataW.trod enc Tryz.prog w base spare held fuel 54 cs = some x) :
    ∃ A : OplN, cs = [.int .u8 A.k, .bool A.f, .int .i64 A.a, .int .i64 A.n, .string A.s] ∧ A.ok ∧ 1 + A.s.size ≤ Rows.uptoBulk x.1 := by
  obtain ⟨y0, y1, y2, y3, y4, n, hx, hl, h0, h1, h2, h3, h4⟩ := trod_struct5 Tryz.underlying54 h
  have hC : Tryz.prog.cellsOf 54 = 5 := by kernel_rfl
  have hC0 : Tryz.prog.cellsOf 5 = 1 := by kernel_rfl
  have hCb : Tryz.prog.cellsOf 4 = 1 := by kernel_rfl
  have hC1 : Tryz.prog.cellsOf 3 = 1 := by kernel_rfl
  have hC2 : Tryz.prog.cellsOf 9 = 1 := by kernel_rfl
  rw [hC] at hl
  obtain ⟨c0, cb, c1, c2, c3, rfl⟩ := len5q hl
  have g0 : DataW.trod enc Tryz.prog w base spare held n 5 (([c0, cb, c1, c2, c3].drop 0).take (Tryz.prog.cellsOf 5)) = some y0 := h0
  have gb : DataW.trod enc Tryz.prog w base spare held n 4 (([c0, cb, c1, c2, c3].drop 1).take (Tryz.prog.cellsOf 4)) = some y1 := h1
  have g1 : DataW.trod enc Tryz.prog w base spare held n 3 (([c0, cb, c1, c2, c3].drop 2).take (Tryz.prog.cellsOf 3)) = some y2 := h2
  have g2 : DataW.trod enc Tryz.prog w base spare held n 3 (([c0, cb, c1, c2, c3].drop 3).take (Tryz.prog.cellsOf 3)) = some y3 := h3
  have g3 : DataW.trod enc Tryz.prog w base spare held n 9 (([c0, cb, c1, c2, c3].drop 4).take (Tryz.prog.cellsOf 9)) = some y4 := h4
  rw [hC0] at g0
  rw [hCb] at gb
  rw [hC1] at g1 g2
  rw [hC2] at g3
  simp only [List.drop_zero, List.take_succ_cons, List.take_zero, List.drop_succ_cons] at g0 gb g1 g2 g3
  obtain ⟨k, e0, _, hk⟩ := DataW.trod_int Tryz.underlying5 g0
  obtain ⟨f, eb, _⟩ := DataW.trod_bool Tryz.underlying4 gb
  obtain ⟨a, e1, _, ha⟩ := DataW.trod_int Tryz.underlying3 g1
  obtain ⟨m, e2, _, hm⟩ := DataW.trod_int Tryz.underlying3 g2
  obtain ⟨s, e3, d3, _⟩ := DataW.trod_string Tryz.underlying9 g3
  simp only [List.cons.injEq, and_true] at e0 eb e1 e2 e3
  have d3' := congrArg Prod.fst d3
  simp only at d3'
  have hk' : 0 ≤ k ∧ k ≤ 255 := by simpa [Lit.wf, IntKind.min, IntKind.max, IntKind.signed, IntKind.bits] using hk
  have ha' : -9223372036854775808 ≤ a ∧ a ≤ 9223372036854775807 := by simpa [Lit.wf, IntKind.min, IntKind.max, IntKind.signed, IntKind.bits] using ha
  have hm' : -9223372036854775808 ≤ m ∧ m ≤ 9223372036854775807 := by simpa [Lit.wf, IntKind.min, IntKind.max, IntKind.signed, IntKind.bits] using hm
  refine ⟨⟨k, f, a, m, s⟩, by rw [e0, eb, e1, e2, e3], ⟨hk', ha', hm'⟩, ?_⟩
  rw [hx]
  have e : s.data.toList.length = s.size := by rw [Array.length_toList]; rfl
  simp only [Rows.uptoBulk, Rows.uptoBulkAll, d3']
  omega
theorem bulk_opls (D : Nat → DataW H) (S : Nat → OplN) : ∀ (l : List Nat), (∀ i ∈ l, 1 + (S i).s.size ≤ Rows.uptoBulk (D i)) → totalP (l.map S) ≤ Rows.uptoBulkAll (l.map D)
  | [], _ => by simp [totalP]
  | i :: l, h => by
    have h1 := bulk_opls D S l fun j hj => h j (by simp [hj])
    have h2 := h i (by simp)
    unfold totalP at *
    simp only [List.map_cons, Rows.uptoBulkAll, List.sum_cons]
    omega
/-- A script that came in. -/
theorem opls_arg {a : Option Addr} {len cap : Nat} {d : DataW H} {ps : List MemPlace} (h : DataW.Trod enc Tryz.prog w base spare held 23 (.slice a len cap) d ps) (hb : Rows.uptoBulk d ≤ 1048576) :
    ∃ Q : List OplN, OplRow w a len cap Q ∧ (∀ A ∈ Q, A.ok) ∧ totalP Q ≤ 1048576 := by
  obtain ⟨fuel, hf⟩ := h
  have hC : Tryz.prog.cellsOf 54 = 5 := by kernel_rfl
  rcases open_slice Tryz.underlying23 hf with ⟨hcs, _⟩ | ⟨x, l, c, m, n, D, Pl, hcs, _, hl, hm, hmm, hd, hi⟩
  · simp [Value.cells] at hcs
    obtain ⟨rfl, rfl, rfl⟩ := hcs
    exact ⟨[], ⟨rfl, Nat.le_refl _, .inl rfl⟩, by simp, by decide⟩
  · simp [Value.cells] at hcs
    obtain ⟨rfl, rfl, rfl⟩ := hcs
    have hd1 : d = .slice ((List.range len).map D) ((List.range (m - len)).map fun j => D (len + j)) := (Prod.mk.inj hd).1
    rw [hd1] at hb
    simp only [Rows.uptoBulk] at hb
    have hle : len ≤ m := by rw [hmm]; split <;> omega
    have each : ∀ i, i < len → ∃ A : OplN, (∀ j, j < 5 → w.cell? ((x.add (i * 5)).add j) = [.int .u8 A.k, .bool A.f, .int .i64 A.a, .int .i64 A.n, .string A.s][j]?) ∧ A.ok ∧ 1 + A.s.size ≤ Rows.uptoBulk (D i) := fun i hii => by
      obtain ⟨cs', h1, h2⟩ := hi i (by omega)
      rw [hC] at h1
      obtain ⟨_, _, h3⟩ := World.cells?_some h1
      obtain ⟨A, rfl, hA⟩ := open_opl h2
      exact ⟨A, h3, hA⟩
    obtain ⟨A, hA⟩ := choose_lt each
    refine ⟨(List.range len).map A, ⟨by simp, hl, ?_⟩, fun B hB => ?_, ?_⟩
    · rcases Nat.eq_zero_or_pos len with h0 | h0
      · exact .inl h0
      · have hsp : ∃ b o, x = ⟨b, o, none⟩ := by
          obtain ⟨_, b, o, hx, _⟩ := argRow_of (w := w) (x := x) (len := 1) (cap := 1) (f := fun _ => .int .u8 (A 0).k) (Nat.le_refl _) (fun i hi => by
            have : i = 0 := by omega
            subst this
            have := (hA 0 h0).1 0 (by omega)
            rw [Go.Deep.add_add] at this
            simpa using this) |>.imp id (fun h => h.resolve_left (by omega))
          exact ⟨b, o, Option.some.inj hx⟩
        obtain ⟨b, o, rfl⟩ := hsp
        refine .inr ⟨b, o, rfl, fun i hi => ?_⟩
        have hi' : i < len := by simpa using hi
        have g : ∀ j, j < 5 → w.cell? ⟨b, o + i * 5 + j, none⟩ = [.int .u8 (A i).k, .bool (A i).f, .int .i64 (A i).a, .int .i64 (A i).n, .string (A i).s][j]? := fun j hj => by
          have := (hA i hi').1 j hj
          rw [add_plain, add_plain] at this
          exact this
        simp only [List.getElem_map, List.getElem_range]
        exact ⟨g 0 (by omega), g 1 (by omega), g 2 (by omega), g 3 (by omega), g 4 (by omega)⟩
    · obtain ⟨i, hi, rfl⟩ := List.mem_map.1 hB
      exact (hA i (List.mem_range.1 hi)).2.1
    · have := bulk_opls D A (List.range len) fun i hi => (hA i (List.mem_range.1 hi)).2.2
      omega
end
end Go.Proofs.YtlecnlnpgghmbaaGreatDoor

/- The law ListPlays: TwinTexts, LeftTexts, beyond. -/
namespace Go.Proofs.YtlecnlnpgghmbaaGreatDoor
set_option linter.unusedVariables false
set_option linter.unusedSimpArgs false
open Go.RowKit
def spareT : ByteArray := ⟨#[115, 112, 97, 114, 101]⟩
/-- v is a copy of these texts, in a block from B on, with the mark behind it. -/
def TwinT (w : World) (B : Nat) (v : Value) (zs : List ByteArray) : Prop :=
  ∃ g cap, v = .slice (some ⟨g, 0, none⟩) zs.length cap ∧ zs.length + 1 ≤ cap ∧ SliceIs w B 9 (.slice (some ⟨g, 0, none⟩) (zs.length + 1) cap) (zs.length + 1) ((zs ++ [spareT]).map strV)
theorem TwinT.slice {w : World} {B : Nat} {v : Value} {zs : List ByteArray} (h : TwinT w B v zs) : SliceIs w B 9 v zs.length (zs.map strV) := by
  obtain ⟨g, cap, rfl, h1, h2⟩ := h
  rcases h2.2 with ⟨e, _⟩ | ⟨g', cap', cur, e, q1, q2, q3, q4, q5, q6⟩
  · cases e
  · cases e
    refine ⟨by simp, .inr ⟨g, cap, cur, rfl, q1, q2, q3, by omega, q5, ?_⟩⟩
    have h3 := congrArg (fun l => l.take zs.length) q6
    simp only [List.take_take, List.map_append] at h3
    rw [Nat.min_eq_left (by omega), List.take_left' (by simp)] at h3
    exact h3
theorem TwinT.below {w w' : World} {B : Nat} {v : Value} {zs : List ByteArray} (h : TwinT w B v zs) (hb : Below w.heap.size w w') : TwinT w' B v zs := by
  obtain ⟨g, cap, e, h1, h2⟩ := h
  exact ⟨g, cap, e, h1, h2.below hb⟩
set_option maxHeartbeats 3200000 in
set_option maxRecDepth 100000 in
theorem twinTexts_any (w : World) (a : Option Addr) (n c : Nat) (zs : List ByteArray) (hlen : zs.length = n) (ha : ArgRow w a n c fun i => .string (zs.getD i ByteArray.empty)) (hn : n ≤ 4000000) :
    Calls Tryz.prog 7 #[.slice a n c] w fun e w' => (∃ v, e = .returned v ∧ TwinT w' w.heap.size v zs) ∧ Below w.heap.size w w' := by
  obtain ⟨i0, g1, g2, g3, g4⟩ := info_parts info_str
  obtain ⟨cur0, hcur0⟩ : ∃ cur0, madeCells (Value.string ByteArray.empty).cells ((n + 1) * 1) = cur0 := ⟨_, rfl⟩
  have hmk : (Instr.makeSlice 22 (.int .i64 0) (.int .i64 ((n : Int) + 1))).run Tryz.prog w = .ok (.slice (some ⟨w.heap.size, 0, none⟩) 0 (n + 1)) (w.alloc (.cells cur0 9)) := by
    have h := run_make (P := Tryz.prog) w 22 9 i0 _ Tryz.underlying22 g1 g2 .i64 .i64 0 ((n : Int) + 1) (by omega) (by omega) (by rw [g4]; omega) (by omega)
    rw [h, g3, ← hcur0, show ((n : Int) + 1).toNat = n + 1 by omega]
    rfl
  have hsz0 : cur0.size = n + 1 := by rw [← hcur0]; simp [madeCells, Value.cells]
  obtain ⟨w1, hw1⟩ : ∃ w1, w1 = w.alloc (.cells cur0 9) := ⟨_, rfl⟩
  have hb1 : Below w.heap.size w w1 := by rw [hw1]; exact (Below.refl _ _).alloc (Nat.le_refl _) _
  have hh1 : w1.heap[w.heap.size]? = some (.cells cur0 9 (0, 0)) := by rw [hw1]; exact heap_new _ _
  have hs1 : SliceIs w1 w.heap.size 9 (.slice (some ⟨w.heap.size, 0, none⟩) 0 (n + 1)) 0 [] := ⟨rfl, .inr ⟨w.heap.size, n + 1, cur0, rfl, Nat.le_refl _, RowAt.of hh1, hsz0, by omega, by unfold maxLen; omega, by simp⟩⟩
  have HR := Lib.hid ha
  have hac := ha.1
  have HLn := Lib.hid hlen
  have HS1 := Lib.hid (show ∃ v, v = Value.slice (some ⟨w.heap.size, 0, none⟩) 0 (n + 1) ∧ SliceIs w1 w.heap.size 9 v 0 ((zs.take 0).map strV) ∧ Below w.heap.size w w1 from ⟨_, rfl, hs1, hb1⟩)
  have HW := Lib.hid hw1
  rw [← hw1] at hmk
  have HM := Lib.hid hmk
  have e1 : IntKind.i64.wrap ((n : Int) + 1) = (n : Int) + 1 := IntWalk.i64_in _ (by omega)
  clear ha hlen hmk hw1 hb1 hh1 hs1 hsz0 hcur0 g1 g2 g3 g4
  go_enter Tryz.func7, Tryz.ntmps7
  go_upto_region 1 with (fail)
  go_wp2_with (rw [HM.out])
  go_loopw [3, 4] (fun v i wr => ∃ k : Nat, k ≤ n ∧ i = .int .i64 k ∧ Hid (SliceIs wr w.heap.size 9 v k ((zs.take k).map strV) ∧ Below w.heap.size w wr)) (fun _ i _ => n - (intOf i).toNat)
  case atStart =>
    obtain ⟨v, rfl, hs, hb⟩ := HS1.out
    exact ⟨0, Nat.zero_le _, rfl, Lib.hid ⟨hs, hb⟩⟩
  case round =>
    obtain ⟨k, hk, rfl, hI⟩ := hrel
    obtain ⟨va, vc, rfl, hvr⟩ := hI.out.1.arg
    have hvc := hvr.1
    clear hvr
    by_cases hlt : k < n
    · have hb := hI.out.2
      obtain ⟨b, o, e, hc⟩ := HR.out.2.resolve_left (by omega)
      subst e
      have hkl : k < zs.length := by rw [HLn.out]; exact hlt
      have h0 : w.cell? ⟨b, o + k, none⟩ = some (.string (zs.getD k ByteArray.empty)) := hc k hlt
      have hcell : wr.cell? ⟨b, o + k, none⟩ = some (.string (zs.getD k ByteArray.empty)) := by rw [hb.cell (World.block_lt_of_cell? w _ h0)]; exact h0
      have htk : zs.take (k + 1) = zs.take k ++ [zs.getD k ByteArray.empty] := by rw [List.take_succ_eq_append_getElem hkl]; simp [List.getD, hkl]
      obtain ⟨v', W2, hrn, s2, b2⟩ := append_text1 hI.out.1 hb.size (zs.getD k ByteArray.empty) (by omega)
      rw [← htk] at s2
      have HA := Lib.hid hrn
      have HN := Lib.hid (And.intro s2 (hb.trans b2))
      obtain ⟨va', vc', rfl, _⟩ := s2.arg
      clear hb htk hrn s2 b2 hI hc h0
      generalize zs.getD k ByteArray.empty = y at *
      go_wp2_with (at_builtin; refine wpList_append_run rfl rfl HA.out ?_)
      go_roundw
      case rel => exact ⟨k + 1, by omega, by go_num, HN⟩
      case measure => simp [intOf]; omega
    · obtain rfl : n = k := by omega
      have hb := hI.out.2
      obtain ⟨v', W2, hrn, s2, b2⟩ := append_text1 hI.out.1 hb.size spareT (by omega)
      have HA := Lib.hid hrn
      rw [List.take_of_length_le (by rw [HLn.out]; exact Nat.le_refl _)] at s2
      obtain ⟨g, cap, cur, rfl, q1, q2, q3, q4, q5, q6⟩ := s2.2.resolve_left (by omega)
      have HN := Lib.hid (show TwinT W2 w.heap.size (.slice (some ⟨g, 0, none⟩) n cap) zs ∧ Below w.heap.size w W2 from ⟨⟨g, cap, by rw [HLn.out], by rw [HLn.out]; exact q4, by rw [HLn.out]; exact s2⟩, hb.trans b2⟩)
      have hcap : n ≤ cap := by omega
      clear hb hrn s2 b2 hI q1 q2 q3 q4 q5 q6
      go_wp2_with (at_builtin; refine wpList_append_run rfl rfl HA.out ?_)
      go_ret
      exact ⟨⟨_, rfl, HN.out.1⟩, HN.out.2⟩
set_option maxHeartbeats 3200000 in
set_option maxRecDepth 100000 in
theorem leftTexts_any (w : World) {B : Nat} {v : Value} (a' : Option Addr) (n c' : Nat) (zs : List ByteArray) (h : TwinT w B v zs) (hlen : zs.length = n) (h' : ArgRow w a' n c' fun i => .string (zs.getD i ByteArray.empty)) (hn : n ≤ 4000000) :
    Calls Tryz.prog 10 #[v, .slice a' n c'] w fun e w' => e = .returned (.bool true) ∧ Below w.heap.size w w' := by
  obtain ⟨g, cap, rfl, hc1, hs⟩ := h
  have hc2 : cap ≤ maxLen := by
    rcases hs.2 with ⟨e, _⟩ | ⟨g', cap', cur, e, q1, q2, q3, q4, q5, q6⟩
    · cases e
    · cases e; exact q5
  obtain ⟨av, cv, e0, har⟩ := texts_of_slice hs
  cases e0
  rw [hlen] at hc1 har ⊢
  have hc0 : ∀ i, i < n + 1 → w.cell? ⟨g, i, none⟩ = some (.string ((zs ++ [spareT]).getD i ByteArray.empty)) := fun i hi => by
    obtain ⟨b, o, e, hc⟩ := har.2.resolve_left (by omega)
    cases e
    have := hc i hi
    rwa [Nat.zero_add] at this
  have HC := Lib.hid hc0
  have HA := Lib.hid h'
  have HLn := Lib.hid hlen
  unfold maxLen at hc2
  clear hs har h' hlen hc0
  have e1 : ((n : Int) == (n : Int)) = true := by simp
  have e2 : decide ((cap : Int) ≤ (n : Int)) = false := by simp; omega
  have e2' : decide (cap ≤ n) = false := by simp; omega
  have e3 : IntKind.i64.wrap ((n : Int) + 1) = (n : Int) + 1 := IntWalk.i64_in _ (by omega)
  go_enter Tryz.func10, Tryz.ntmps10
  go_wp2_with fail
  go_loopw [5] (fun i wr => ∃ k : Nat, k ≤ n ∧ i = .int .i64 k ∧ Hid (Below w.heap.size w wr)) (fun i _ => n - (intOf i).toNat)
  case atStart => exact ⟨0, Nat.zero_le _, rfl, Lib.hid (Below.refl _ _)⟩
  case round =>
    obtain ⟨k, hk, rfl, hI⟩ := hrel
    by_cases hlt : k < n
    · obtain ⟨b', o', e', hcl⟩ := HA.out.2.resolve_left (by omega)
      subst e'
      have hkl : k < zs.length := by rw [HLn.out]; exact hlt
      have d0 : w.cell? ⟨g, k, none⟩ = some (.string (zs.getD k ByteArray.empty)) := by
        rw [HC.out k (by omega)]
        simp [List.getD, List.getElem?_append_left hkl]
      have d1 : w.cell? ⟨b', o' + k, none⟩ = some (.string (zs.getD k ByteArray.empty)) := hcl k hlt
      have hbd := belowN hI.out 1
      have d0' : wr.drew.cell? ⟨g, k, none⟩ = some (.string (zs.getD k ByteArray.empty)) := (hbd.cell (World.block_lt_of_cell? w _ d0)).trans d0
      have d1' : wr.drew.cell? ⟨b', o' + k, none⟩ = some (.string (zs.getD k ByteArray.empty)) := (hbd.cell (World.block_lt_of_cell? w _ d1)).trans d1
      clear hcl d0 d1
      generalize zs.getD k ByteArray.empty = y at *
      obtain ⟨X1, fw, hX1, hfw, hF⟩ := classOf (fun w' => w'.cell? ⟨g, k, none⟩ = some (.string y) ∧ w'.cell? ⟨b', o' + k, none⟩ = some (.string y)) (w := wr.drew) ⟨d0', d1'⟩
      have k1 := fun x => (hfw x).1
      have k2 := fun x => (hfw x).2
      have HFa := Lib.hid (hF wr.drew ⟨d0', d1'⟩)
      have HS := Lib.hid hbd
      clear hF hfw d0' d1' hbd hI
      go_upto_region 6 with (fail)
      refine wp_region_text ⟨[], [], 9⟩ (fun w' => ∃ x : X1, w' = fw x) (by kernel_rfl) (by kernel_rfl) HFa.out ?_
      refine wpC_seg false (HFa.out) 9 0 _ _ (by rfl) (by rfl) ?_
      simp only [List.take_succ_cons, List.take_zero, List.drop_succ_cons, List.drop_zero, Bool.false_eq_true, if_false, Nat.zero_add, Nat.reduceAdd]
      repeat (go_big_quiet_step (fail))
      refine wpQuiet_nil ?_
      refine wpC_nil ?_
      go_wp2_with fail
      go_roundw
      case rel => exact ⟨k + 1, by omega, by go_num, HS⟩
      case measure => simp [intOf]; omega
    · obtain rfl : n = k := by omega
      have d0 : wr.cell? ⟨g, n, none⟩ = some (.string spareT) := by
        have h0 := HC.out n (by omega)
        have : (zs ++ [spareT]).getD n ByteArray.empty = spareT := by have := HLn.out; simp [List.getD, ← this]
        rw [this] at h0
        exact (hI.out.cell (World.block_lt_of_cell? w _ h0)).trans h0
      unfold spareT at d0
      have HB := Lib.hid hI.out
      clear hI
      go_wp2_with fail
      go_ret
      exact ⟨rfl, HB.out⟩
theorem OplRow.below {w w' : World} {a : Option Addr} {len cap : Nat} {Q : List OplN} (h : OplRow w a len cap Q) {S : Nat → Prop} (hc : Chg S w w') (hn : ∀ k, k < w.heap.size → ¬ S k) : OplRow w' a len cap Q := by
  refine ⟨h.1, h.2.1, h.2.2.imp id ?_⟩
  rintro ⟨b, o, e, hcl⟩
  refine ⟨b, o, e, fun i hi => ?_⟩
  obtain ⟨h0, h1, h2, h3, h4⟩ := hcl i hi
  have hb := hn b (World.block_lt_of_cell? w _ h0)
  exact ⟨cell_chg hc h0 hb, cell_chg hc h1 hb, cell_chg hc h2 hb, cell_chg hc h3 hb, cell_chg hc h4 hb⟩
theorem totalP_succ {Q : List OplN} {k : Nat} (h : k < Q.length) : totalP (Q.take (k + 1)) = totalP (Q.take k) + 1 + Q[k].s.size := by
  unfold totalP
  rw [List.take_succ_eq_append_getElem h, List.map_append, List.sum_append]
  simp; omega
theorem totalP_take (Q : List OplN) (k : Nat) : totalP (Q.take k) ≤ totalP Q := by
  unfold totalP
  conv => rhs; rw [← List.take_append_drop k Q]
  rw [List.map_append, List.sum_append]; omega
theorem totalP_mem : ∀ {Q : List OplN} {A : OplN}, A ∈ Q → A.s.size ≤ totalP Q
  | [], _, h => by simp at h
  | B :: Q, A, h => by
    unfold totalP
    simp only [List.map_cons, List.sum_cons]
    rcases List.mem_cons.1 h with rfl | h
    · omega
    · have := totalP_mem h
      unfold totalP at this
      omega
set_option maxHeartbeats 1600000 in
set_option maxRecDepth 100000 in
theorem beyond12_any (w : World) (a : Option Addr) (len cap : Nat) (Q : List OplN) (h : OplRow w a len cap Q) (ht : totalP Q ≤ 1048576) (hm : len ≤ 1048576) :
    Calls Tryz.prog 4 #[.slice a len cap] w fun e w' => e = .returned (.bool (decide (3000 < len))) ∧ w = w' := by
  have hac := h.2.1
  have HA := Lib.hid h
  have HT := Lib.hid (fun k => Nat.le_trans (totalP_take Q k) ht)
  clear h ht
  go_enter Tryz.func4, Tryz.ntmps4
  go_wp2_with fail
  go_loop [3, 4] (fun n i => ∃ k : Nat, k ≤ len ∧ i = .int .i64 k ∧ n = .int .i64 (totalP (Q.take k) : Nat)) (fun _ i => len - (intOf i).toNat)
  case atStart => exact ⟨0, Nat.zero_le _, rfl, rfl⟩
  case round =>
    obtain ⟨k, hk, rfl, rfl⟩ := hrel
    have hT := HT.out k
    by_cases hlt : k < len
    · obtain ⟨b, o, hb, hc⟩ := HA.out.2.2.resolve_left (by omega)
      subst hb
      have hkl : k < Q.length := by rw [HA.out.1]; exact hlt
      obtain ⟨_, _, _, _, hcell⟩ := hc k hkl
      have HN := Lib.hid (totalP_succ hkl)
      have hT1 := HT.out (k + 1)
      rw [HN.out] at hT1
      clear hc
      generalize Q[k].s = y at *
      generalize totalP (Q.take k) = q at *
      have hd : decide ((1048576 : Int) < (q : Int) + 1 + (y.size : Int)) = false := decide_eq_false (by omega)
      go_wp2_with fail
      go_round
      case rel => exact ⟨k + 1, by omega, by go_num, by rw [HN.out]; go_num⟩
      case measure => simp [intOf]; omega
    · obtain rfl : k = len := by omega
      generalize totalP (Q.take k) = q at *
      by_cases h4 : 3000 < k
      · have hd : decide ((3000 : Int) < (k : Int)) = true := decide_eq_true (by omega)
        have H4 := Lib.hid h4
        clear h4
        go_wp2_with fail
        go_ret
        exact ⟨by rw [decide_eq_true H4.out]; rfl, rfl⟩
      · have hd : decide ((3000 : Int) < (k : Int)) = false := decide_eq_false (by omega)
        have H4 := Lib.hid h4
        clear h4
        go_wp2_with fail
        go_ret
        exact ⟨by rw [decide_eq_false H4.out]; rfl, rfl⟩
end Go.Proofs.YtlecnlnpgghmbaaGreatDoor

/- The law ListPlays: a book is told a list of any age; words for the walk. -/
namespace Go.Proofs.YtlecnlnpgghmbaaGreatDoor
set_option linter.unusedVariables false
set_option linter.unusedSimpArgs false
open Go.RowKit
theorem chg_below {U : Nat → Prop} {w w' : World} (h : Chg U w w') (hU : ∀ k, ¬ U k) : Below w.heap.size w w' := ⟨h.os, h.tape, h.output, h.size, fun k hk => h.block k hk (hU k)⟩
theorem BookT.keepAt {w0 w : World} {b : Nat} {tv : Value} {E : List Held} {Bk : Nat → Prop} (h : BookT w0 w b tv E Bk) (hE : E.length < 1000000) {a : Option Addr} {n cap : Nat} {xs : List Value} (hvn : SliceN w 0 9 1 (.slice a n cap) n xs)
    (hfr : ∀ k, vblock (.slice a n cap) = some k → ¬ Bk k ∧ w0.heap.size ≤ k) (hn : n ≤ 1000000000) :
    Calls Tryz.prog 11 #[bkp b, .slice a n cap] w fun e w' => (∃ v, e = .returned v) ∧ (∃ tv' Bk', BookT w0 w' b tv' (E ++ [⟨.slice a n cap, nilV, n, E.length + 1⟩]) Bk' ∧ ∀ k, Bk' k → Bk k ∨ vblock (.slice a n cap) = some k ∨ w.heap.size ≤ k) ∧ Chg Bk w w' := by
  refine (texts_any h.head rfl rfl h.row h.offbt (by omega) (by omega) a n cap).mono ?_
  rintro e w' ⟨he, tv', k1, k2, k3, k4⟩
  have hS : Chg Bk w w' := k4.mono fun k hk _ => by
    rcases hk with rfl | hk
    · exact (h.all _).2 (.inl rfl)
    · exact (h.all _).2 (.inr (.inl hk))
  have hvS : ∀ k, vblock (.slice a n cap) = some k → ¬ (k = b ∨ vblock tv = some k) := fun k hk hS => (hfr k hk).1 ((h.all k).2 (hS.imp id .inl))
  have htb : vblock tv' ≠ some b := by
    rcases k3 with e2 | ⟨x, e2, hx⟩
    · rw [e2]; exact h.offbt
    · rw [e2]
      intro e3; cases e3
      have := h.lt ((h.all b).2 (.inl rfl))
      omega
  have hnew : ∀ x ∈ E ++ [(⟨.slice a n cap, nilV, n, E.length + 1⟩ : Held)], x ∈ E ∨ x = ⟨.slice a n cap, nilV, n, E.length + 1⟩ := fun x hx => by simpa using hx
  refine ⟨he, ⟨tv', fun k => k = b ∨ vblock tv' = some k ∨ blocksV (E ++ [⟨.slice a n cap, nilV, n, E.length + 1⟩]) k, ⟨⟨h.base.laid, ?_⟩, ?_, k2, htb, fun k => Iff.rfl, ?_, ?_, ?_, ?_, ?_, ?_, ?_, ?_⟩, ?_⟩, hS⟩
  · exact belowChg h.base.bel hS h.base.bel.size fun k hk _ => h.old k hk
  · rw [k1, List.length_append, List.length_singleton]; rfl
  · rintro k (rfl | hk | ⟨x, hx, hk⟩)
    · exact h.old _ ((h.all _).2 (.inl rfl))
    · rcases k3 with e2 | ⟨y, e2, hy⟩
      · rw [e2] at hk; exact h.old _ ((h.all _).2 (.inr (.inl hk)))
      · rw [e2] at hk; cases hk; have := h.base.bel.size; omega
    · rcases hnew x hx with hx | rfl
      · exact h.old _ ((h.all _).2 (.inr (.inr ⟨x, hx, hk⟩)))
      · exact (hfr k hk).2
  · rw [List.length_append, List.length_singleton]; omega
  · intro x hx
    rcases hnew x hx with hx | rfl
    · exact h.small x hx
    · exact ⟨hn, by show E.length + 1 ≤ _; omega⟩
  · intro x hx
    rcases hnew x hx with hx | rfl
    · obtain ⟨ys, hs⟩ := h.got x hx
      exact ⟨ys, hs.chg k4 fun k hk hS => by
        rcases hS with rfl | hS
        · exact h.offb x hx hk
        · exact h.offt x hx k hk hS⟩
    · exact ⟨xs, hvn.chg k4 hvS⟩
  · intro x hx
    rcases hnew x hx with hx | rfl
    · exact h.gnil x hx
    · rfl
  · have hno : ∀ x ∈ E, ∀ k, vblock x.v = some k → vblock (.slice a n cap) ≠ some k := fun x hx k hk e => (hfr k e).1 ((h.all k).2 (.inr (.inr ⟨x, hx, hk⟩)))
    intro i j hi hj hij k hki hkj
    rw [List.length_append, List.length_singleton] at hi hj
    by_cases hiE : i < E.length
    · rw [List.getElem_append_left hiE] at hki
      by_cases hjE : j < E.length
      · rw [List.getElem_append_left hjE] at hkj
        exact h.apart i j hiE hjE hij k hki hkj
      · obtain rfl : j = E.length := by omega
        rw [List.getElem_append_right (by omega)] at hkj
        simp only [Nat.sub_self, List.getElem_cons_zero] at hkj
        exact hno _ (List.getElem_mem hiE) k hki hkj
    · obtain rfl : i = E.length := by omega
      rw [List.getElem_append_right (by omega)] at hki
      simp only [Nat.sub_self, List.getElem_cons_zero] at hki
      have hjE : j < E.length := by omega
      rw [List.getElem_append_left hjE] at hkj
      exact hno _ (List.getElem_mem hjE) k hkj hki
  · intro x hx e
    rcases hnew x hx with hx | rfl
    · exact h.offb x hx e
    · exact hvS b e (.inl rfl)
  · intro x hx k hk e
    rcases k3 with e2 | ⟨y, e2, hy⟩
    · rw [e2] at e
      rcases hnew x hx with hx | rfl
      · exact h.offt x hx k hk e
      · exact hvS k hk (.inr e)
    · rw [e2] at e; cases e
      rcases hnew x hx with hx | rfl
      · have := h.lt ((h.all k).2 (.inr (.inr ⟨x, hx, hk⟩))); omega
      · have := (hvn.block_lt hk).2; omega
  · rintro k (rfl | hk | ⟨x, hx, hk⟩)
    · exact .inl ((h.all _).2 (.inl rfl))
    · rcases k3 with e2 | ⟨y, e2, hy⟩
      · rw [e2] at hk; exact .inl ((h.all _).2 (.inr (.inl hk)))
      · rw [e2] at hk; cases hk; exact .inr (.inr hy)
    · rcases hnew x hx with hx | rfl
      · exact .inl ((h.all _).2 (.inr (.inr ⟨x, hx, hk⟩)))
      · exact .inr (.inl hk)
/-- Between two steps of the law: the sides, the list without a row, the book. -/
structure PlayI (w : World) (Inv : (Nat → Prop) → World → Prop) (z b : Nat) (m : Nat) (wr : World) : Prop where
  got : ∃ U tv E Bk, Inv U wr ∧ BookT w wr b tv E Bk ∧ E.length ≤ m ∧ (∀ k, U k → ¬ Bk k) ∧ (∀ k, U k → w.heap.size ≤ k ∧ k < wr.heap.size) ∧ ¬ U z ∧ ¬ Bk z
  zero : wr.heap[z]? = some (.cells #[.nilIface] 39 (0, 0))
  old : w.heap.size ≤ z
  base : Base w wr
/-- The sides stay when blocks are written that are not theirs. -/
def Stays (w : World) (Inv : (Nat → Prop) → World → Prop) : Prop := ∀ {U : Nat → Prop} {w1 w2 : World} {S : Nat → Prop}, Inv U w1 → Chg S w1 w2 → (∀ k, U k → ¬ S k) → (∀ k, S k → w.heap.size ≤ k) → Inv U w2
section
variable {w : World} {pl pr : Value} {Inv : (Nat → Prop) → World → Prop} {z b m : Nat} {wr wr' : World}
theorem PlayI.below (S : Sides w pl pr Inv) (h : PlayI w Inv z b m wr) (hb : Below wr.heap.size wr wr') : PlayI w Inv z b m wr' := by
  obtain ⟨⟨U, tv, E, Bk, h1, h2, h3, h4, h5, h6, h7⟩, h8, h9, h10⟩ := h
  exact ⟨⟨U, tv, E, Bk, S.below h1 hb, h2.below hb, h3, h4, fun k hk => ⟨(h5 k hk).1, Nat.lt_of_lt_of_le (h5 k hk).2 hb.size⟩, h6, h7⟩, (Chg.of_below (fun _ => False) hb).keep h8 id, h9, h10.below hb⟩
theorem PlayI.mono (h : PlayI w Inv z b m wr) {m' : Nat} (hm : m ≤ m') : PlayI w Inv z b m' wr := by
  obtain ⟨⟨U, tv, E, Bk, h1, h2, h3, h4⟩, h5, h6, h7⟩ := h
  exact ⟨⟨U, tv, E, Bk, h1, h2, by omega, h4⟩, h5, h6, h7⟩
/-- The sides have made a step. -/
theorem PlayI.kept (S : Sides w pl pr Inv) {U : Nat → Prop} {tv : Value} {E : List Held} {Bk : Nat → Prop} (h2 : BookT w wr b tv E Bk) (h3 : E.length ≤ m) (h4 : ∀ k, U k → ¬ Bk k) (h5 : ∀ k, U k → w.heap.size ≤ k ∧ k < wr.heap.size) (h6 : ¬ U z) (h7 : ¬ Bk z)
    (h8 : wr.heap[z]? = some (.cells #[.nilIface] 39 (0, 0))) (h9 : w.heap.size ≤ z) (hk : Kept2 Inv U wr wr') : PlayI w Inv z b m wr' := by
  obtain ⟨⟨U', i', f'⟩, c'⟩ := hk
  have hbk := h2.chg c' (fun k hk hU => h4 k hU hk) fun k hk => (h5 k hk).1
  have hz := c'.keep h8 h6
  refine ⟨⟨U', tv, E, Bk, i', hbk, h3, fun k hU hB => ?_, fun k hU => ⟨?_, ((S.base i').2 k hU).2⟩, fun hU => ?_, h7⟩, hz, h9, hbk.base⟩
  · rcases f' k hU with h | h
    · exact h4 k h hB
    · have := h2.lt hB; omega
  · exact ((S.base i').2 k hU).1
  · rcases f' z hU with h | h
    · exact h6 h
    · have := heap_lt h8; omega
end
theorem real_stays (w : World) (l r : Nat) : Stays w (RealI w l r) := fun ⟨L, sm, h⟩ hc hn hS => ⟨L, sm, h.chg hc hn hS⟩
theorem none_stays (w : World) : Stays w (GoneI w (.pointer none)) := fun h hc hn hS => ⟨h.1.chg hc hS, .inl rfl, h.2.2⟩
end Go.Proofs.YtlecnlnpgghmbaaGreatDoor

/- The law ListPlays: its calls, over what holds between two of them. -/
namespace Go.Proofs.YtlecnlnpgghmbaaGreatDoor
set_option linter.unusedVariables false
set_option linter.unusedSimpArgs false
open Go.RowKit
theorem goneI_of {w wr : World} {p : Value} (hB : Base w wr) (hg : GoneP wr p) : GoneI w p (fun _ => False) wr := ⟨hB, hg, fun _ => id⟩
theorem gone_below {w wr w' : World} {p : Value} (hk : Kept2 (GoneI w p) (fun _ => False) wr w') : Below wr.heap.size wr w' := chg_below hk.2 fun _ => id
/-- Behind the book's last word. -/
structure RestI (w : World) (Inv : (Nat → Prop) → World → Prop) (z : Nat) (wr : World) : Prop where
  got : ∃ U, Inv U wr ∧ ¬ U z
  zero : wr.heap[z]? = some (.cells #[.nilIface] 39 (0, 0))
  base : Base w wr
section
variable {w : World} {pl pr : Value} {Inv : (Nat → Prop) → World → Prop} {z b m : Nat} {wr wr' : World}
theorem RestI.below (S : Sides w pl pr Inv) (h : RestI w Inv z wr) (hb : Below wr.heap.size wr wr') : RestI w Inv z wr' := by
  obtain ⟨⟨U, h1, h2⟩, h3, h4⟩ := h
  exact ⟨⟨U, S.below h1 hb, h2⟩, (Chg.of_below (fun _ => False) hb).keep h3 id, h4.below hb⟩
theorem play_asked (S : Sides w pl pr Inv) (h : PlayI w Inv z b m wr) (A : OplN) (hA : A.ok) (hs : A.s.size ≤ 1048576) :
    Calls Tryz.prog 12 #[pl, pr, .agg #[.int .u8 A.k, .bool A.f, .int .i64 A.a, .int .i64 A.n, .string A.s]] wr fun e w' => e = .returned (.bool true) ∧ PlayI w Inv z b m w' := by
  obtain ⟨⟨U, tv, E, Bk, h1, h2, h3, h4, h5, h6, h7⟩, h8, h9, h10⟩ := h
  refine (asked_list S h1 A.k hA.1 A.f A.a A.n hA.2.1 hA.2.2 A.s hs).mono ?_
  rintro e w' ⟨rfl, hk⟩
  exact ⟨rfl, PlayI.kept S h2 h3 h4 h5 h6 h7 h8 h9 hk⟩
theorem play_looks (S : Sides w pl pr Inv) (h : PlayI w Inv z b m wr) :
    Calls Tryz.prog 13 #[pl, pr] wr fun e w' => e = .returned (.bool true) ∧ PlayI w Inv z b m w' := by
  obtain ⟨⟨U, tv, E, Bk, h1, h2, h3, h4, h5, h6, h7⟩, h8, h9, h10⟩ := h
  refine (looks_any S h1).mono ?_
  rintro e w' ⟨rfl, hk⟩
  exact ⟨rfl, PlayI.kept S h2 h3 h4 h5 h6 h7 h8 h9 hk⟩
theorem play_gone (S : Sides w pl pr Inv) (h : PlayI w Inv z b m wr) {p : Value} (hp : p = .pointer none ∨ p = pv z) (A : OplN) (hA : A.ok) (hs : A.s.size ≤ 1048576) :
    Calls Tryz.prog 12 #[p, .pointer none, .agg #[.int .u8 A.k, .bool A.f, .int .i64 A.a, .int .i64 A.n, .string A.s]] wr fun e w' => e = .returned (.bool true) ∧ PlayI w Inv z b m w' := by
  have hg : GoneP wr p := hp.imp id fun e => ⟨z, e, h.zero⟩
  refine (asked_list (gone_sides w p) (goneI_of h.base hg) A.k hA.1 A.f A.a A.n hA.2.1 hA.2.2 A.s hs).mono ?_
  rintro e w' ⟨rfl, hk⟩
  exact ⟨rfl, h.below S (gone_below hk)⟩
/-- The list's range is told to the book. -/
theorem play_keep (S : Sides w pl pr Inv) (hst : Stays w Inv) (h : PlayI w Inv z b m wr) (hm : m < 1000000) (x y : Int) (hx : i64ok x) (hy : i64ok y) :
    Calls Tryz.prog 14 #[pl, .int .i64 x, .int .i64 y] wr fun e w1 => ∃ (a : Option Addr) (n c : Nat), e = .returned (.slice a n c) ∧ Below wr.heap.size wr w1 ∧
      Calls Tryz.prog 11 #[bkp b, .slice a n c] w1 fun e2 w2 => (∃ v, e2 = .returned v) ∧ PlayI w Inv z b (m + 1) w2 := by
  obtain ⟨⟨U, tv, E, Bk, h1, h2, h3, h4, h5, h6, h7⟩, h8, h9, h10⟩ := h
  refine (S.range h1 x y hx hy).mono ?_
  rintro e w1 ⟨a, n, c, T, rfl, s1, hn, b1, _⟩
  refine ⟨a, n, c, rfl, b1, ?_⟩
  refine (h2.keep b1 (by omega) s1 (by omega)).mono ?_
  rintro e w2 ⟨he, ⟨tv', Bk', k1, k2⟩, k3⟩
  have hz1 := (Chg.of_below (fun _ => False) b1).keep h8 id
  have hzl := heap_lt h8
  refine ⟨he, ⟨U, tv', _, Bk', hst (S.below h1 b1) k3 h4 h2.old, k1, ?_, ?_, fun k hk => ⟨(h5 k hk).1, ?_⟩, h6, fun hB => ?_⟩, k3.keep hz1 h7, h9, k1.base⟩
  · rw [List.length_append, List.length_singleton]; omega
  · intro k hk hB
    rcases k2 k hB with h | h
    · exact h4 k hk h
    · have := (h5 k hk).2; omega
  · have := (h5 k hk).2; have := b1.size; have := k3.size; omega
  · rcases k2 z hB with h | h
    · exact h7 h
    · omega
theorem play_apart (S : Sides w pl pr Inv) (hst : Stays w Inv) (h : PlayI w Inv z b m wr) :
    Calls Tryz.prog 15 #[bkp b] wr fun e w' => e = .returned (.bool true) ∧ RestI w Inv z w' := by
  obtain ⟨⟨U, tv, E, Bk, h1, h2, h3, h4, h5, h6, h7⟩, h8, h9, h10⟩ := h
  refine h2.apart_any.mono ?_
  rintro e w' ⟨rfl, hc⟩
  exact ⟨rfl, ⟨U, hst h1 hc h4 h2.old, h6⟩, hc.keep h8 h7, h10.chg hc h2.old⟩
theorem rest_same (S : Sides w pl pr Inv) (h : RestI w Inv z wr) (x y : Int) (hx : i64ok x) (hy : i64ok y) :
    Calls Tryz.prog 14 #[pl, .int .i64 x, .int .i64 y] wr fun e w1 => ∃ (a : Option Addr) (n c : Nat), e = .returned (.slice a n c) ∧
      Calls Tryz.prog 17 #[pr, .int .i64 x, .int .i64 y] w1 fun e2 w2 => ∃ (a' : Option Addr) (c' : Nat), e2 = .returned (.slice a' n c') ∧
        Calls Tryz.prog 16 #[.slice a n c, .slice a' n c'] w2 fun e w' => e = .returned (.bool true) ∧ RestI w Inv z w' := by
  obtain ⟨U, h1, h2⟩ := h.got
  refine (S.range h1 x y hx hy).mono ?_
  rintro e w1 ⟨a, n, c, T, rfl, s1, hn, b1, hr⟩
  refine ⟨a, n, c, rfl, hr.mono ?_⟩
  rintro e w2 ⟨a', c', rfl, harg, rfl⟩
  refine ⟨a', c', rfl, ?_⟩
  obtain ⟨av, cv, e2, harg1⟩ := texts_of_slice s1
  cases e2
  have hTl : T.length = n := by simpa using s1.1
  refine (sameTexts_any w1 a a' n n c c' T T hTl hTl harg1 harg (by omega)).mono ?_
  rintro e w' ⟨rfl, d, rfl⟩
  exact ⟨by rw [decide_eq_true rfl], h.below S (belowN b1 d)⟩
theorem rest_looks (S : Sides w pl pr Inv) (h : RestI w Inv z wr) :
    Calls Tryz.prog 13 #[pl, pr] wr fun e w' => e = .returned (.bool true) ∧ RestI w Inv z w' := by
  obtain ⟨⟨U, h1, h2⟩, h3, h4⟩ := h
  refine (looks_any S h1).mono ?_
  rintro e w' ⟨rfl, ⟨U', i', f'⟩, c'⟩
  refine ⟨rfl, ⟨U', i', fun hU => ?_⟩, c'.keep h3 h2, (S.base i').1⟩
  rcases f' z hU with h | h
  · exact h2 h
  · have := heap_lt h3; omega
theorem rest_gone (S : Sides w pl pr Inv) (h : RestI w Inv z wr) {p : Value} (hp : p = .pointer none ∨ p = pv z) :
    Calls Tryz.prog 13 #[p, .pointer none] wr fun e w' => e = .returned (.bool true) ∧ RestI w Inv z w' := by
  have hg : GoneP wr p := hp.imp id fun e => ⟨z, e, h.zero⟩
  refine (looks_any (gone_sides w p) (goneI_of h.base hg)).mono ?_
  rintro e w' ⟨rfl, hk⟩
  exact ⟨rfl, h.below S (gone_below hk)⟩
end
end Go.Proofs.YtlecnlnpgghmbaaGreatDoor

/- The law ListPlays: both lists made; the book begun. -/
namespace Go.Proofs.YtlecnlnpgghmbaaGreatDoor
set_option linter.unusedVariables false
set_option linter.unusedSimpArgs false
open Go.RowKit
/-- What both Of answer alike: the sides, and where they lie. -/
structure Made (w : World) (B : Nat) (pl pr : Value) (Inv : (Nat → Prop) → World → Prop) (wr : World) : Prop where
  sides : Sides w pl pr Inv
  stays : Stays w Inv
  got : ∃ U, Inv U wr ∧ ∀ k, U k → B ≤ k ∧ k < wr.heap.size
  base : Base w wr
theorem Made.below {w : World} {B : Nat} {pl pr : Value} {Inv : (Nat → Prop) → World → Prop} {wr wr' : World} (h : Made w B pl pr Inv wr) (hb : Below wr.heap.size wr wr') : Made w B pl pr Inv wr' := by
  obtain ⟨h1, h2, ⟨U, h3, h4⟩, h5⟩ := h
  exact ⟨h1, h2, ⟨U, h1.below h3 hb, fun k hk => ⟨(h4 k hk).1, Nat.lt_of_lt_of_le (h4 k hk).2 hb.size⟩⟩, h5.below hb⟩
theorem size_le_sum {s : ByteArray} : ∀ {zs : List ByteArray}, s ∈ zs → s.size ≤ (zs.map ByteArray.size).sum
  | z :: zs, h => by
    rw [List.map_cons, List.sum_cons]
    rcases List.mem_cons.1 h with rfl | h
    · omega
    · have := size_le_sum h; omega
theorem of_both {w w1 : World} (hB : Base w w1) (v : Value) (zs : List ByteArray) {a : Option Addr} {n ca : Nat} {B0 : Nat} (hv : TwinT w1 B0 v zs) (hlen : zs.length = n) (ha : ArgRow w a n ca fun i => .string (zs.getD i ByteArray.empty)) (ht : totalT zs ≤ 1048576) :
    Calls Tryz.prog 8 #[v] w1 fun e w2 => ∃ (pl : Value) (c : Int), e = .returned (.tuple #[pl, .int .i64 c]) ∧
      Calls Tryz.prog 9 #[.slice a n ca] w2 fun e2 w3 => ∃ (pr : Value) (Inv : (Nat → Prop) → World → Prop), e2 = .returned (.tuple #[pr, .int .i64 c]) ∧ ((pl = .pointer none ∧ pr = .pointer none) ∨ ∃ l r, pl = pv l ∧ pr = pv r) ∧ Made w w1.heap.size pl pr Inv w3 ∧ Below w1.heap.size w1 w3 := by
  have hn : n ≤ 1048576 := by unfold totalT at ht; omega
  have hsz : ∀ s ∈ zs, s.size ≤ 1048576 := fun s hs => by
    have h1 := size_le_sum hs
    unfold totalT at ht; omega
  obtain ⟨av, cv, rfl, hav⟩ := texts_of_slice hv.slice
  rw [hlen] at hav ⊢
  refine (ofL_any hB.now av n cv zs hlen hav hn hsz).mono ?_
  rintro e w2 ⟨h, b2⟩
  have hB2 := hB.below b2
  have ha2 : ArgRow w2 a n ca fun i => .string (zs.getD i ByteArray.empty) := ha.belowT hB2.bel
  rcases h with ⟨hf, l, F, rfl, hl, hF⟩ | ⟨hf, rfl⟩
  · refine ⟨_, _, rfl, (refOfL w2 a n ca zs hlen ha2 hn).mono ?_⟩
    rintro e2 w3 ⟨h, b3⟩
    rcases h with ⟨hf2, r, G, a', cap', rfl, hr, hG⟩ | ⟨hf2, rfl⟩
    · have hb13 := b2.trans (b3.mono b2.size)
      have hl3 := hl.below b3
      refine ⟨_, RealI w l r, rfl, .inr ⟨l, r, rfl, rfl⟩, ⟨real_sides w l r, real_stays w l r, ⟨fun k => F k ∨ G k, ⟨zs, smallT zs, F, G, a', cap', hB2.below b3, hl3, hr, fun k hk hg => ?_, fun k => Iff.rfl, fun k hk => ?_⟩, fun k hk => ⟨?_, ?_⟩⟩, hB2.below b3⟩, hb13⟩
      · have := hl.lt hk; have := hG k hg; omega
      · have h1 := hB.bel.size
        have h2 := b2.size
        rcases hk with hk | hk
        · have := hF k hk; omega
        · have := hG k hk; omega
      · have h2 := b2.size
        rcases hk with hk | hk
        · exact hF k hk
        · have := hG k hk; omega
      · rcases hk with hk | hk
        · exact hl3.lt hk
        · exact hr.lt hk
    · rw [hf] at hf2; cases hf2
  · refine ⟨_, _, rfl, (refOfL w2 a n ca zs hlen ha2 hn).mono ?_⟩
    rintro e2 w3 ⟨h, b3⟩
    rcases h with ⟨hf2, r, G, a', cap', rfl, hr, hG⟩ | ⟨hf2, rfl⟩
    · rw [hf] at hf2; cases hf2
    · exact ⟨_, GoneI w (.pointer none), rfl, .inl ⟨rfl, rfl⟩, ⟨gone_sides w _, none_stays w, ⟨fun _ => False, goneI_of (hB2.below b3) (.inl rfl), fun _ => False.elim⟩, hB2.below b3⟩, b2.trans (b3.mono b2.size)⟩
/-- The list without a row, the book, and the first word to it. -/
theorem play_start {w wr : World} {B B0 : Nat} {pl pr : Value} {Inv : (Nat → Prop) → World → Prop} (h : Made w B pl pr Inv wr) {v : Value} {zs : List ByteArray} (hv : TwinT wr B0 v zs) (hB0 : w.heap.size ≤ B0) (hBl : ∀ k, vblock v = some k → k < B) (hBw : B ≤ wr.heap.size) (hn : zs.length ≤ 1000000000)
    {w4 w5 : World} (h4 : w4 = wr.alloc (.cells #[.nilIface] 39)) (h5 : w5 = w4.alloc (.cells (bookC 0 nilV) 50)) :
    Calls Tryz.prog 11 #[bkp w4.heap.size, v] w5 fun e w' => (∃ x, e = .returned x) ∧ PlayI w Inv wr.heap.size w4.heap.size 1 w' := by
  have b4 : Below wr.heap.size wr w4 := by rw [h4]; exact (Below.refl _ _).alloc (Nat.le_refl _) _
  have b5 : Below w4.heap.size w4 w5 := by rw [h5]; exact (Below.refl _ _).alloc (Nat.le_refl _) _
  have b45 : Below wr.heap.size wr w5 := b4.trans (b5.mono b4.size)
  have e4 : w4.heap.size = wr.heap.size + 1 := by rw [h4]; exact Array.size_push _
  have e5 : w5.heap.size = w4.heap.size + 1 := by rw [h5]; exact Array.size_push _
  have z5 : w5.heap[wr.heap.size]? = some (.cells #[.nilIface] 39 (0, 0)) := (Chg.of_below (fun _ => False) b5).keep (by rw [h4]; exact heap_new _ _) id
  have hh : w5.heap[w4.heap.size]? = some (.cells (bookC 0 nilV) 50 (0, 0)) := by rw [h5]; exact heap_new _ _
  have hB := h.base.below b45
  obtain ⟨hS, hst, ⟨U, hU, hUb⟩, hB0'⟩ := h
  have hU5 := hS.below hU b45
  have hwr := hB0'.bel.size
  have hv5 := (hv.below b45).slice
  have hbk : BookT w w5 w4.heap.size nilV [] (fun k => k = w4.heap.size) :=
    { base := hB, head := hh, row := SliceN.nil _ _ _ _, offbt := (nofun), all := fun k => ⟨.inl, fun hk => hk.elim id fun hk => hk.elim (nofun) fun ⟨x, hx, _⟩ => nomatch hx⟩, old := fun k hk => by omega, few := by decide, small := nofun, got := nofun, gnil := nofun,
      apart := (fun i j hi => absurd hi (Nat.not_lt_zero i)), offb := nofun, offt := nofun }
  have hgb := fun k hk => hv5.block_lt (k := k) hk
  obtain ⟨av, cv, e, hav⟩ := texts_of_slice hv5
  subst e
  refine (hbk.keepAt (by decide) hv5.toN (fun k hk => ⟨fun e => ?_, ?_⟩) hn).mono ?_
  · have := hBl k hk; omega
  · have := (hgb k hk).1; omega
  rintro e w' ⟨he, ⟨tv', Bk', k1, k2⟩, k3⟩
  have hk5 := k3.size
  have hno : ∀ k, U k → k < wr.heap.size := fun k hk => (hUb k hk).2
  have hx : ∀ k, Bk' k → k = w4.heap.size ∨ k < B ∨ w5.heap.size ≤ k := fun k hk => (k2 k hk).imp id fun h => h.imp (hBl k) id
  refine ⟨he, ⟨U, tv', _, Bk', hst hU5 k3 (fun k hk e => ?_) hbk.old, k1, Nat.le_refl 1, fun k hk hB => ?_, fun k hk => ⟨?_, ?_⟩, fun hk => ?_, fun hB => ?_⟩, k3.keep z5 fun e => ?_, hwr, k1.base⟩
  · have := hno k hk; omega
  · have := hno k hk
    have := (hUb k hk).1
    have := hx k hB; omega
  · exact ((hS.base hU).2 k hk).1
  · have := hno k hk; omega
  · have := hno _ hk; omega
  · have := hx _ hB; omega
  · omega
end Go.Proofs.YtlecnlnpgghmbaaGreatDoor

/- The law ListPlays: the walk. -/
namespace Go.Proofs.YtlecnlnpgghmbaaGreatDoor
set_option linter.unusedVariables false
set_option linter.unusedSimpArgs false
open Go.RowKit
theorem totalP_len : ∀ Q : List OplN, Q.length ≤ totalP Q
  | [] => Nat.zero_le _
  | A :: Q => by
    have := totalP_len Q
    unfold totalP at *
    simp only [List.map_cons, List.sum_cons, List.length_cons]
    omega
set_option maxHeartbeats 25600000 in
set_option maxRecDepth 100000 in
theorem listPlays_walk {w : World} (hl : Laid w) (a : Option Addr) (n ca : Nat) (zs : List ByteArray) (ha : zs.length = n ∧ ArgRow w a n ca fun i => .string (zs.getD i ByteArray.empty)) (ta : totalT zs ≤ 1048576)
    (b0 : Option Addr) (m cb : Nat) (Q : List OplN) (hb : OplRow w b0 m cb Q) (hok : ∀ A ∈ Q, A.ok) (tb : totalP Q ≤ 1048576) :
    Calls Tryz.prog 3 #[.slice a n ca, .slice b0 m cb] w fun e w' => e = .returned (.bool true) ∧ Below w.heap.size w w' := by
  have hml : m ≤ 1048576 := by
    have h1 : Q.length ≤ totalP Q := totalP_len Q
    have h2 := hb.1; omega
  have HBy := Lib.hid (beyond12_any w b0 m cb Q hb tb hml)
  have HA := Lib.hid (fun w' (hbe : Below w.heap.size w w') => show ArgRow w' a n ca fun i => .string (zs.getD i ByteArray.empty) from ha.2.belowT hbe)
  have HLd := Lib.hid (show Base w w from ⟨hl, Below.refl _ _⟩)
  have hn1 : n ≤ 1048576 := by have := ha.1; unfold totalT at ta; omega
  have hac := ha.2.1
  have hbc := hb.2.1
  have HLn := Lib.hid ha.1
  have HTot := Lib.hid ta
  have HTs := Lib.hid (textsSize_any w a n ca zs ha.1 ha.2 ta)
  have HOp := Lib.hid (show ∀ j, j < m → ∃ (b o : Nat) (A : OplN), b0 = some ⟨b, o, none⟩ ∧ A.ok ∧ A.s.size ≤ 1048576 ∧ ∀ w', Base w w' → w'.cell? ⟨b, o + j * 5, none⟩ = some (.int .u8 A.k) ∧ w'.cell? ⟨b, o + j * 5 + 1, none⟩ = some (.bool A.f) ∧ w'.cell? ⟨b, o + j * 5 + 2, none⟩ = some (.int .i64 A.a) ∧ w'.cell? ⟨b, o + j * 5 + 3, none⟩ = some (.int .i64 A.n) ∧ w'.cell? ⟨b, o + j * 5 + 4, none⟩ = some (.string A.s) from fun j hj => by
    obtain ⟨b, o, e, hc⟩ := hb.2.2.resolve_left (by omega)
    have hjl : j < Q.length := by have := hb.1; omega
    obtain ⟨c0, c1, c2, c3, c4⟩ := hc j hjl
    refine ⟨b, o, Q[j], e, hok _ (List.getElem_mem hjl), Nat.le_trans (totalP_mem (List.getElem_mem hjl)) tb, fun w' hB => ?_⟩
    have hk := fun {x : Addr} {u : Value} (h : w.cell? x = some u) => (hB.bel.cell (World.block_lt_of_cell? w _ h)).trans h
    exact ⟨hk c0, hk c1, hk c2, hk c3, hk c4⟩)
  clear ta hl ha hb hok tb hml
  by_cases h3 : 3000 < m
  · rw [decide_eq_true h3] at HBy
    clear h3
    go_enter Tryz.func3, Tryz.ntmps3
    go_wp2_with fail
    refine HBy.out.mono ?_
    rintro e w' ⟨rfl, rfl⟩
    go_wp2_with fail
    go_ret
    exact ⟨rfl, Below.refl _ _⟩
  · rw [decide_eq_false h3] at HBy
    have hm3 : m ≤ 3000 := by omega
    clear h3
    go_enter Tryz.func3, Tryz.ntmps3
    go_wp2_with fail
    refine HBy.out.mono ?_
    rintro e w' ⟨rfl, rfl⟩
    go_wp2_with fail
    refine HTs.out.mono ?_
    rintro e w' ⟨rfl, rfl⟩
    obtain ⟨w1, hw1⟩ : ∃ w1, w1 = w.alloc (.cells #[.int .i64 (totalT zs)] 3) := ⟨_, rfl⟩
    have hb1 : Below w.heap.size w w1 := by rw [hw1]; exact (Below.refl _ _).alloc (Nat.le_refl _) _
    have hbe := beyond_any w1 (some ⟨w.heap.size, 0, none⟩) 1 1 [totalT zs] rfl ⟨Nat.le_refl _, .inr ⟨w.heap.size, 0, rfl, fun i hi => by
      obtain rfl : i = 0 := by omega
      rw [hw1]; exact cell_in (heap_new _ _) rfl⟩⟩ (by have := HTot.out; simp; omega) (by omega)
    rw [show decide (1048576 < [totalT zs].sum) = false from decide_eq_false (by have := HTot.out; simp; omega)] at hbe
    have HBe := Lib.hid hbe
    have B1 := Lib.hid hb1
    have HW1 := Lib.hid hw1
    have HTw := Lib.hid (twinTexts_any w1 a n ca zs HLn.out (HA.out _ hb1) (by omega))
    clear hbe hb1 hw1 HTs HBy
    generalize hTT : totalT zs = T at *
    have HTT := Lib.hid hTT
    clear hTT
    go_wp2_with fail
    rw [← HW1.out]
    refine HBe.out.mono ?_
    rintro e w' ⟨rfl, rfl⟩
    go_wp2_with fail
    refine HTw.out.mono ?_
    rintro e w2 ⟨⟨v, rfl, hv⟩, b2⟩
    have B2 := Lib.hid (show Base w w2 from HLd.out.below (B1.out.trans (b2.mono B1.out.size)))
    have HSt := Lib.hid (fun k (hk : vblock v = some k) => hv.slice.block_lt hk)
    have HOf := Lib.hid (of_both B2.out v zs hv HLn.out (HA.out _ (Below.refl _ _)) (by rw [HTT.out]; exact HTot.out))
    obtain ⟨av, cv, e, hx⟩ := texts_of_slice hv.slice
    clear hx
    have HV := Lib.hid hv
    clear hv b2 HTw
    subst e
    rw [HLn.out] at HV HOf HSt
    rw [HLn.out]
    go_wp2_with fail
    refine HOf.out.mono ?_
    rintro e w3 ⟨pl, c, rfl, hr⟩
    have HR := Lib.hid hr
    clear hr
    go_wp2_with fail
    refine HR.out.mono ?_
    rintro e w4 ⟨pr, Inv, rfl, hpp, hM, b4⟩
    have HM := Lib.hid hM
    have B4 := Lib.hid b4
    clear hM b4
    have hcc : (c != c) = false := by simp
    have HLe := Lib.hid (leftTexts_any w4 a n ca zs (HV.out.below B4.out) HLn.out (HA.out _ HM.out.base.bel) (by omega))
    rcases hpp with ⟨rfl, rfl⟩ | ⟨l, r, rfl, rfl⟩
    all_goals
      go_wp2_with fail
      refine HLe.out.mono ?_
      rintro e w5 ⟨rfl, b5⟩
      have HM5 := Lib.hid (HM.out.below b5)
      have HV5 := Lib.hid ((HV.out.below B4.out).below b5)
      have HS5 := Lib.hid (show w2.heap.size ≤ w5.heap.size from Nat.le_trans B4.out.size b5.size)
      clear b5 HLe
      go_wp2_with fail
      have hT := play_start HM5.out HV5.out (Nat.le_trans B1.out.size (Nat.le_refl _)) (fun k hk => (HSt.out k hk).2) HS5.out (by rw [HLn.out]; omega) rfl rfl
      rw [show (w5.alloc (.cells #[.nilIface] 39)).heap.size = w5.heap.size + 1 from Array.size_push _] at hT
      refine hT.mono ?_
      rintro e w6 ⟨⟨x, rfl⟩, hP⟩
      have HP := Lib.hid hP
      have HSd := Lib.hid HM5.out.sides
      have HSy : Hid (Stays w Inv) := Lib.hid (show Stays w Inv from HM5.out.stays)
      clear hT hP HS5 HV5 HM5 HSt HV B4 HM HOf HTT HW1 HTot B2 B1 HBe HLd HA
      generalize w5.heap.size = z at *
      go_wp2_with fail
      go_loopw [14] (fun i wr => ∃ j : Nat, j ≤ m ∧ i = .int .i64 j ∧ Hid (PlayI w Inv z (z + 1) (j + 1) wr)) (fun i _ => m - (intOf i).toNat)
      case atStart => exact ⟨0, Nat.zero_le _, rfl, HP⟩
      case round =>
        obtain ⟨j, hj, rfl, hI⟩ := hrel
        by_cases hlt : j < m
        · obtain ⟨ob, oo, A, e, hA, hAs, hc⟩ := HOp.out j hlt
          subst e
          have HAk := Lib.hid (And.intro hA hAs)
          have HC := Lib.hid hc
          obtain ⟨c0, c1, c2, c3, c4⟩ := HC.out wr hI.out.base
          have H1 := Lib.hid (play_asked HSd.out hI.out A hA hAs)
          clear hA hAs hc
          go_wp2_with fail
          refine H1.out.mono ?_
          rintro e q1 ⟨rfl, p1⟩
          have H2 := Lib.hid (play_looks HSd.out p1)
          clear p1 H1 c0 c1 c2 c3 c4
          go_wp2_with fail
          refine H2.out.mono ?_
          rintro e q2 ⟨rfl, p2⟩
          obtain ⟨c0, c1, c2, c3, c4⟩ := HC.out q2 p2.base
          have H3 := Lib.hid (play_gone HSd.out p2 (.inl rfl) A HAk.out.1 HAk.out.2)
          clear p2 H2
          go_wp2_with fail
          refine H3.out.mono ?_
          rintro e q3 ⟨rfl, p3⟩
          clear c0 c1 c2 c3 c4
          obtain ⟨c0, c1, c2, c3, c4⟩ := HC.out q3 p3.base
          have H4 := Lib.hid (play_gone HSd.out p3 (.inr rfl) A HAk.out.1 HAk.out.2)
          clear p3 H3
          unfold pv at H4
          go_wp2_with fail
          refine H4.out.mono ?_
          rintro e q4 ⟨rfl, p4⟩
          have P4 := Lib.hid p4
          clear c0 c1 c2 c3 c4 p4 H4 hI
          by_cases h20 : j < 20
          · have pd := P4.out.below HSd.out (belowN (Below.refl _ _) 1)
            have pd' : PlayI w Inv z (z + 1) (j + 1) q4.drew := pd
            have H5 := Lib.hid (play_keep HSd.out HSy.out pd' (by omega) A.a A.n HAk.out.1.2.1 HAk.out.1.2.2)
            have hcd := HC.out q4.drew pd'.base
            obtain ⟨X1, f, hX1, hff, hF⟩ := classOf (fun y => y.cell? ⟨ob, oo + j * 5 + 2, none⟩ = some (.int .i64 A.a) ∧ y.cell? ⟨ob, oo + j * 5 + 3, none⟩ = some (.int .i64 A.n)) (w := q4.drew) ⟨hcd.2.2.1, hcd.2.2.2.1⟩
            have hf2 := fun x => (hff x).1
            have hf3 := fun x => (hff x).2
            have H0 := Lib.hid (hF q4.drew ⟨hcd.2.2.1, hcd.2.2.2.1⟩)
            have HFc := Lib.hid (fun (q : World) (hb : Below q4.drew.heap.size q4.drew q) => hF q ⟨(HC.out q (pd'.base.below hb)).2.2.1, (HC.out q (pd'.base.below hb)).2.2.2.1⟩)
            clear hff hF hcd pd pd'
            go_wp2_with fail
            refine wp_region_text ⟨[11, 12], [], 12⟩ (fun w' => ∃ x : X1, w' = f x) (by kernel_rfl) (by kernel_rfl) H0.out ?_
            refine wpC_seg false (H0.out) 11 0 _ _ (by rfl) (by rfl) ?_
            simp only [List.take_succ_cons, List.take_zero, List.drop_succ_cons, List.drop_zero, Bool.false_eq_true, if_false, Nat.zero_add, Nat.reduceAdd]
            repeat (go_big_quiet_step (fail))
            refine wpQuiet_nil ?_
            refine wpC_loud (by rfl) (by rfl) fun K hK => ?_
            go_wp2_with fail
            refine H5.out.mono ?_
            rintro e q5 ⟨av5, n5, c5, rfl, b5, hr⟩
            have HR := Lib.hid hr
            refine hK _ _ (fun _ => HFc.out _ b5) ?_
            clear hK hr b5
            refine wpC_loud (by rfl) (by rfl) fun K hK => ?_
            go_wp2_with fail
            refine HR.out.mono ?_
            rintro e q6 ⟨⟨x6, rfl⟩, p6⟩
            have P6 := Lib.hid p6
            refine hK _ _ (fun h => absurd h (by decide)) ?_
            clear hK p6
            refine wpC_nil ?_
            clear hf2 hf3 hX1 H0 HFc H5
            go_wp2_with fail
            go_roundw
            case rel => exact ⟨j + 1, by omega, by go_num, P6⟩
            case measure => simp [intOf]; omega
          · have P5 := Lib.hid (P4.out.mono (m' := j + 1 + 1) (by omega))
            go_wp2_with fail
            go_roundw
            case rel => exact ⟨j + 1, by omega, by go_num, P5⟩
            case measure => simp [intOf]; omega
        · obtain rfl : j = m := by omega
          have H1 := Lib.hid (play_apart HSd.out HSy.out hI.out)
          clear hI
          go_wp2_with fail
          refine H1.out.mono ?_
          rintro e q1 ⟨rfl, p1⟩
          have H2 := Lib.hid (rest_same HSd.out p1 0 (-1) (by omega) (by omega))
          clear p1 H1
          go_wp2_with fail
          refine H2.out.mono ?_
          rintro e q2 ⟨a2, n2, c2, rfl, h2⟩
          have H3 := Lib.hid h2
          clear h2 H2
          go_wp2_with fail
          refine H3.out.mono ?_
          rintro e q3 ⟨a3, c3, rfl, h3⟩
          have H4 := Lib.hid h3
          clear h3 H3
          go_wp2_with fail
          refine H4.out.mono ?_
          rintro e q4 ⟨rfl, p4⟩
          have H5 := Lib.hid (rest_looks HSd.out p4)
          clear p4 H4
          go_wp2_with fail
          refine H5.out.mono ?_
          rintro e q5 ⟨rfl, p5⟩
          have H6 := Lib.hid (rest_gone HSd.out p5 (.inl rfl))
          clear p5 H5
          go_wp2_with fail
          refine H6.out.mono ?_
          rintro e q6 ⟨rfl, p6⟩
          have H7 := Lib.hid (rest_gone HSd.out p6 (.inr rfl))
          clear p6 H6
          unfold pv at H7
          go_wp2_with fail
          refine H7.out.mono ?_
          rintro e q7 ⟨rfl, p7⟩
          have HE := Lib.hid p7.base.bel
          clear p7 H7
          go_wp2_with fail
          go_ret
          exact ⟨rfl, HE.out⟩
end Go.Proofs.YtlecnlnpgghmbaaGreatDoor

/- what a row's list of variables gives (door seats): Laid; and a world that meets it. -/
namespace Go.Proofs.YtlecnlnpgghmbaaGreatDoor
set_option linter.unusedVariables false
set_option linter.unusedSimpArgs false
open Go.RowKit
namespace Lay
theorem star : "*" ++ "errors.errorString" = "*errors.errorString" := by decide
theorem rowErr (u : TypeId) (h : Tryz.prog.typeName? 3 u = some "*errors.errorString") : u = 218 :=
  typeName_ptr_named (nm := "errors.errorString") (by rw [star]; kernel_rfl) (by kernel_rfl) (by decide) u (by rw [star]; exact h)
theorem laid_of {W : World} (h : laidMetH Tryz.prog Rows.listPlaysRow.laid W) (hs : W.ShapedOpen Tryz.prog) : Laid W := by
  have h0 : laidMet Tryz.prog Rows.listPlaysRow.laid W := h
  have h3 : laidMet Tryz.prog [("internal/strconv.uint64pow10", Rows.laid_internal_strconv_uint64pow10), ("strconv.ErrRange", Rows.laid_strconv_ErrRange), ("strconv.ErrSyntax", Rows.laid_strconv_ErrSyntax)] W := h0.tail.tail
  refine { tab := Lib.tabIs_of_head (n := 20) (g := 0) (by kernel_rfl) (by kernel_rfl) Tryz.underlying197 Tryz.underlying114 (by kernel_rfl) (by kernel_rfl) h3, syn := ?_, rng := ?_
         }
  · obtain ⟨a, _, hv, _⟩ := laid_sentinel (g := 1) h3.tail.tail (by kernel_rfl) (by kernel_rfl) Tryz.underlying188 rowErr Tryz.underlying218 Tryz.underlying220 rfl rfl Tryz.underlying9 (by kernel_rfl) (by kernel_rfl)
    exact ⟨_, _, hv⟩
  · obtain ⟨a, _, hv, _⟩ := laid_sentinel (g := 2) h3.tail (by kernel_rfl) (by kernel_rfl) Tryz.underlying188 rowErr Tryz.underlying218 Tryz.underlying220 rfl rfl Tryz.underlying9 (by kernel_rfl) (by kernel_rfl)
    exact ⟨_, _, hv⟩
/-- So many blocks has the settled world. -/
noncomputable def low : Nat := (World.holding Tryz.prog default ⟨#[], #[], []⟩).heap.size
abbrev synS : ByteArray := { data := #[105, 110, 118, 97, 108, 105, 100, 32, 115, 121, 110, 116, 97, 120] }
abbrev rngS : ByteArray := { data := #[118, 97, 108, 117, 101, 32, 111, 117, 116, 32, 111, 102, 32, 114, 97, 110, 103, 101] }
def lits : List (DataW Unit) → Array Value
  | [] => #[]
  | .lit (.int k n) :: l => #[.int k n] ++ lits l
  | _ :: l => lits l
def table : DataW Unit → Array Value
  | .agg l => lits l
  | _ => #[]
def into (cs : Array Value) : Obj → Obj
  | .cells _ t frozen => .cells cs t frozen
  | o => o
noncomputable def laidWorld (os : Os) : World :=
  let w0 := World.holding Tryz.prog os ⟨#[.cells #[.string synS] 220, .cells #[.string rngS] 220], #[], []⟩
  { w0 with heap := ((((w0.heap.modify 0 (into (table Rows.laid_internal_strconv_uint64pow10))).modify 3 (into (table Rows.laid_math_bits_deBruijn32tab))).modify 4 (into (table Rows.laid_math_bits_deBruijn64tab))).modify 1 (into #[.iface 218 (.pointer (some ⟨low, 0, none⟩))])).modify 2 (into #[.iface 218 (.pointer (some ⟨low + 1, 0, none⟩))]) }
theorem laid_met (os : Os) (args : Array Value) : laidMet Tryz.prog Rows.listPlaysRow.laid ((laidWorld os).forCall (fun _ _ => 0) ⟨#[], args, []⟩).memory :=
  laidMet_of_run' 8 (by kernel_rfl) (by kernel_rfl)
end Lay
end Go.Proofs.YtlecnlnpgghmbaaGreatDoor

/- The row of the law ListPlays, and its card: for every input of at most 1048576 values and letters the Go function returns true and its arguments read as before, out of the walk listPlays_walk. The library's variables that the row lists hold what the program's text lays (the card's tie, given). -/
namespace Go.Proofs.YtlecnlnpgghmbaaGreatDoor.listPlaysRow
open Go.ChangeShapes Go.WideShapes Go.ChangeAt Go.RowKit
open Go.ChangeMaps (open_string shut_string)
set_option linter.unusedVariables false
set_option linter.unusedSimpArgs false
theorem own : ownKnob Tryz.prog.godebug = none := by kernel_rfl
theorem laidOut : laidOutB Tryz.prog = true := by kernel_rfl
theorem bulk {H : Type} {l : List (DataW H)} (hk : Rows.uptoSmall H l = true) : Rows.uptoBulkAll l ≤ 1048576 := of_decide_eq_true hk
theorem reads (os : Os) {H : Type} (enc : TypeId × Value → H) : ∃ places, DataW.whole enc Tryz.prog ((Lay.laidWorld os).forCall (fun _ _ => 0) ⟨#[], #[.slice none 0 0, .slice none 0 0], []⟩).memory Tryz.f3.params.toList Rows.listPlaysSpec.vars false (#[.slice none 0 0, .slice none 0 0] : Array Value).toList 8 = some ([.nil, .nil], [], places) :=
  ⟨[], by kernel_rfl⟩
set_option maxRecDepth 100000 in
theorem contract (H : Type) (enc : TypeId × Value → H) (W : World) (base : Nat) (args : Array Value) (ds gs : List (DataW H)) (before : List MemPlace)
    (hval0 : ∀ (j : Nat) t v, Tryz.f3.params[j]? = some t → args[j]? = some v → Value.okWide Tryz.prog W .any base t v)
    (hW : DataW.Whole enc Tryz.prog Tryz.f3.params.toList Rows.listPlaysSpec.vars false W args.toList ds gs before) (hk0 : Rows.uptoSmall H (ds ++ gs) = true)
    (hsz0 : (DataW.weightsEach Tryz.prog (Tryz.f3.params.toList ++ Rows.listPlaysSpec.plain.varTypes Tryz.prog) (ds ++ gs)).all (· ≤ reachBytes) = true) (hL : Laid W) :
    Calls Tryz.prog 3 args W fun e W' => ∃ v, e = .returned v ∧ Rows.listPlaysSpec.post enc Tryz.prog Tryz.f3 false true false false W args v W' := by
  have hsz := hsz0
  have hk := bulk hk0
  have hval : ∀ (j : Nat) t v, Tryz.f3.params[j]? = some t → args[j]? = some v → Value.okWide Tryz.prog W .any base t v := hval0
  have hW' := hW
  obtain ⟨p, q, hA0, hV, rfl, hfz, hnd⟩ := hW
  have hA : DataW.TrodAll enc Tryz.prog W 0 (fun _ => true) true Tryz.f3.params.toList args.toList ds p := hA0
  rw [Tryz.params3] at hA hval hsz
  obtain ⟨v0, vs0, d0, ds0, p0, q0, hargs, rfl, rfl, h0, r0⟩ := trodAll_cons hA
  obtain ⟨v1, vs1, d1, ds1, p1, q1, rfl, rfl, rfl, h1, r1⟩ := trodAll_cons r0
  obtain ⟨rfl, rfl, rfl⟩ := trodAll_nil r1
  obtain rfl : args = #[v0, v1] := by cases args; simp_all
  obtain ⟨rfl, rfl⟩ := trodVars_none hV
  have k0 := h0
  have lt0 : ∀ x ∈ p0, x.block < W.heap.size := by obtain ⟨m, hm⟩ := k0; exact DataW.trod_lt m _ _ _ hm
  obtain ⟨a0, len0, cap0, rfl⟩ := okWide_slice Tryz.underlying22 (hval 0 22 v0 rfl rfl)
  have b0 : Rows.uptoBulk d0 ≤ 1048576 := by
    have := hk
    simp only [List.cons_append, List.nil_append, List.append_nil, Rows.uptoBulkAll] at this
    omega
  obtain ⟨z0, w0, y0⟩ := texts_arg h0 b0
  have k1 := h1
  have lt1 : ∀ x ∈ p1, x.block < W.heap.size := by obtain ⟨m, hm⟩ := k1; exact DataW.trod_lt m _ _ _ hm
  obtain ⟨a1, len1, cap1, rfl⟩ := okWide_slice Tryz.underlying23 (hval 1 23 v1 rfl rfl)
  have b1 : Rows.uptoBulk d1 ≤ 1048576 := by
    have := hk
    simp only [List.cons_append, List.nil_append, List.append_nil, Rows.uptoBulkAll] at this
    omega
  obtain ⟨z1, w1, l1, y1⟩ := opls_arg h1 b1
  simp only [List.cons_append, List.nil_append, List.append_nil, Rows.uptoBulkAll, Rows.uptoBulk] at hk
  clear hA0 hval0 hsz0 hsz
  refine (listPlays_walk hL a0 len0 cap0 z0 w0 y0 a1 len1 cap1 z1 w1 l1 y1).mono fun e W' ⟨he, bel⟩ => ?_
  subst he
  exact ⟨_, rfl, _, _, _, [], _, [], hW', trodAll_mk1 (shut_bool Tryz.underlying4 _), (trodAll_cons_mk (Below.trod laidOut (by kernel_rfl) (of_decide_eq_true (by kernel_rfl)) k0 bel lt0) (trodAll_cons_mk (Below.trod laidOut (by kernel_rfl) (of_decide_eq_true (by kernel_rfl)) k1 bel lt1) trodAll_mk0)), rfl, bel.frame _, fun h => by cases h⟩
set_option maxRecDepth 100000 in
theorem liftedUpto (os : Os) (started : os.Started) (H : Type) (enc : TypeId × Value → H) (F : Stop.Interp) :
    ReturnsInHanded {} Tryz.checked os 3 .any ((Rows.OpenSpec.upto Rows.listPlaysSpec).preRow enc Tryz.prog Tryz.f3 Rows.listPlaysUptoRow.domain false Rows.listPlaysUptoRow.laid) (((Rows.OpenSpec.upto Rows.listPlaysSpec).at F).post enc Tryz.prog Tryz.f3 false true false false) := by
  obtain ⟨places, hx⟩ := reads os enc
  refine returnsInHanded_of_row (C := Tryz.checked) (s := (Rows.OpenSpec.upto Rows.listPlaysSpec)) own started (by kernel_rfl) Tryz.func3
    (witness_row_at (enc := enc) (C := Tryz.checked) false (Lay.laidWorld os) #[.slice none 0 0, .slice none 0 0] rfl (by kernel_rfl) (by kernel_rfl) (by kernel_rfl)
      (OpenSpec.preRow_of_cond 8 hx (by kernel_rfl) (fun k hk => by cases hk; kernel_rfl) (by kernel_rfl) (Lay.laid_met os _))) ?_
  intro W base args ds gs before hval hW _ hcond hsz hL hS _
  exact contract H enc W base args ds gs before hval hW (hcond _ rfl) hsz (Lay.laid_of hL hS)
theorem saidUpto : Rows.ListPlaysUptoSaid :=
  OpenClaim.holds_of_cond 3 Tryz.f3 rfl rfl rfl rfl rfl rfl rfl ⟨rfl, rfl, rfl, rfl, rfl⟩ rfl rfl rfl rfl rfl (by kernel_rfl) Tryz.func3 (by kernel_rfl)
    (of_decide_eq_true (by kernel_rfl)) (by unfold Func.isWrapper; first | (rw [if_pos (by decide +kernel)]; kernel_rfl) | (rw [if_neg (by decide +kernel)]; exact ⟨rfl, rfl⟩))
    (fun os started H enc _ F => by rw [OpenClaim.pre_eq_preRow]; exact liftedUpto os started H enc F)
theorem plain (f : FuncId) (fn : Func) (hf : Tryz.pinned.checked.prog.funcNamed "stillroom/stillroomlaw12.ListPlays" = some f) (hfn : Tryz.pinned.checked.prog.funcs[f]? = some fn) :
    true = Tryz.pinned.checked.prog.looks [] ∧ ∀ (j : Nat) t, fn.params[j]? = some t → Tryz.pinned.checked.prog.wantsStandIn t = false := by
  obtain rfl : f = 3 := Option.some.inj ((show Tryz.prog.funcNamed "stillroom/stillroomlaw12.ListPlays" = some 3 by kernel_rfl).symm.trans hf) |>.symm
  obtain rfl : fn = Tryz.f3 := (Option.some.inj (Tryz.func3.symm.trans hfn)).symm
  refine ⟨by kernel_rfl, fun j t ht => ?_⟩
  rw [Tryz.params3] at ht
  have ht := Array.mem_of_getElem? ht
  have all : ∀ t ∈ (#[22, 23] : Array TypeId), Tryz.prog.wantsStandIn t = false := by
    intro t ht
    simp only [List.mem_toArray, List.mem_cons, List.not_mem_nil, or_false] at ht
    rcases ht with rfl | rfl <;> kernel_rfl
  exact all t ht
end Go.Proofs.YtlecnlnpgghmbaaGreatDoor.listPlaysRow
namespace Go.Proofs.YtlecnlnpgghmbaaGreatDoor
open Go.Proofs.YtlecnlnpgghmbaaGreatDoor.listPlaysRow in
/-- The law's card. -/
theorem listPlays_holds : Rows.ListPlaysUptoCardSaid :=
  Claim7.holds_tied_plain_at .later [] _ _ _ _ saidUpto (fun _ h => by cases h) (by kernel_rfl) (fun _ h => by cases h) listPlaysUpto_row_tie rfl ⟨rfl, rfl⟩ (by kernel_rfl) rfl plain (by kernel_rfl)
end Go.Proofs.YtlecnlnpgghmbaaGreatDoor
