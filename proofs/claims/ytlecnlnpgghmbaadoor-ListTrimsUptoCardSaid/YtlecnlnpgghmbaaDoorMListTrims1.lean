/- The row of the law ListTrims, and its card: for every input of at most 1048576 values and letters the Go function returns true and its arguments read as before, out of the walk listTrims_walk. The library's variables that the row lists hold what the program's text lays (the card's tie, given). -/
import Derived.Test.YtlecnlnpgghmbaaDoorMQ3
import Derived.Test.YtlecnlnpgghmbaaDoorRows
import Derived.Test.YtlecnlnpgghmbaaDoorMQ1
import Derived.Stop.LaidErr
import Derived.Lib.LaidTab
import Derived.LaidLaws
import Derived.Test.YtlecnlnpgghmbaaDoorCards
import Derived.Test.YtlecnlnpgghmbaaDoorTie
import Derived.WalkKit
import Derived.ProofKit
import Derived.OpenShut
import Derived.ShutString
import Derived.ChangeOld
import Derived.Below
import Derived.SizedLaws
import Derived.Laws.Cover2
import Derived.Lib.SmallJoins
import Derived.Deep.Slices
import Derived.Deep.SlicePairs
import Derived.SliceStrings
import Derived.JoinedCond
import Derived.Deep.DeepHandedRow
/- The law ListTrims: the walk. -/
namespace Go.Proofs.YtlecnlnpgghmbaaDoor
set_option linter.unusedVariables false
set_option linter.unusedSimpArgs false
open Go.RowKit
theorem i64_wf {x : Int} (h : (Lit.int .i64 x).wf = true) : -9223372036854775808 ≤ x ∧ x ≤ 9223372036854775807 := by
  simpa [Lit.wf, IntKind.min, IntKind.max, IntKind.signed, IntKind.bits] using h
theorem fitsT_all {zs : List ByteArray} (h : fitsT zs = true) : ∀ s ∈ zs, s.size ≤ 65536 := of_decide_eq_true h
theorem ListF.small {w : World} {l : Nat} {F : Nat → Prop} {L : List ByteArray} {sm : Bool} (h : ListF w l F L sm) : Calls Tryd.prog 14 #[pv l] w fun e w' => e = .returned (.bool sm) ∧ Below w.heap.size w w' := by
  obtain ⟨v, Fr, h⟩ := h
  exact smallL h
theorem ListF.len {w : World} {l : Nat} {F : Nat → Prop} {L : List ByteArray} {sm : Bool} (h : ListF w l F L sm) : Calls Tryd.prog 12 #[pv l] w fun e w' => e = .returned (.int .i64 L.length) ∧ w = w' := by
  obtain ⟨v, Fr, h⟩ := h
  exact lenL h
theorem rngL_le (L : List ByteArray) (a b : Int) : (rngL L a b).length ≤ L.length := rangeT_length L _ _
theorem ArgRow.chgT {w w' : World} {a : Option Addr} {n c : Nat} {f : Nat → Value} {S : Nat → Prop} (h : ArgRow w a n c f) (hc : Chg S w w') (hn : ∀ k, (∃ b o, a = some ⟨b, o, none⟩ ∧ k = b) → ¬ S k) : ArgRow w' a n c f := by
  refine ⟨h.1, h.2.imp id ?_⟩
  rintro ⟨b, o, e, hf⟩
  refine ⟨b, o, e, fun i hi => ?_⟩
  have h1 := hf i hi
  have hlt : b < w.heap.size := World.block_lt_of_cell? w _ h1
  have := hc.block b hlt (hn b ⟨b, o, e, rfl⟩)
  rw [← h1]
  simp only [World.cell?, this]
set_option maxHeartbeats 6400000 in
set_option maxRecDepth 100000 in
theorem listTrims_all {w : World} (hl : Laid w) (a : Option Addr) (n ca : Nat) (zs : List ByteArray) (f t : Int) (ha : zs.length = n ∧ ArgRow w a n ca fun i => .string (zs.getD i ByteArray.empty)) (ta : totalT zs ≤ 1048576)
    (hf : -9223372036854775808 ≤ f ∧ f ≤ 9223372036854775807) (ht : -9223372036854775808 ≤ t ∧ t ≤ 9223372036854775807) :
    Calls Tryd.prog 6 #[.slice a n ca, .int .i64 f, .int .i64 t] w fun e w' => e = .returned (.bool true) ∧ Below w.heap.size w w' := by
  have HAl := Lib.hid (fun w' (hb : Below w.heap.size w w') => alive12_any (hl.below hb))
  have HA := Lib.hid (fun w' (hbe : Below w.heap.size w w') => show ArgRow w' a n ca fun i => .string (zs.getD i ByteArray.empty) from ha.2.belowT hbe)
  have HLd := Lib.hid (fun w' (hbe : Below w.heap.size w w') => hl.below hbe)
  have HL := Lib.hid hl
  have hac := ha.2.1
  have HLn := Lib.hid ha.1
  have HTot := Lib.hid ta
  clear ta hl ha
  cases hm : (fitsT zs && decide (n ≤ 400)) with
  | false =>
    have HM := Lib.hid (fun w' (hb : Below w.heap.size w w') => may12_any w' a n ca zs HLn.out (HA.out w' hb) HTot.out)
    rw [hm] at HM
    clear hm
    go_enter Tryd.func6, Tryd.ntmps6
    go_wp2_with fail
    refine (HAl.out _ (Below.refl _ _)).mono ?_
    rintro e w1 ⟨rfl, b1⟩
    have B1 := Lib.hid b1
    clear b1
    go_wp2_with fail
    refine (HM.out _ B1.out).mono ?_
    rintro e w2 ⟨rfl, b2⟩
    have B2 := Lib.hid (B1.out.trans (b2.mono B1.out.size))
    clear b2
    go_wp2_with fail
    refine (HAl.out _ B2.out).mono ?_
    rintro e w3 ⟨rfl, b3⟩
    have B3 := Lib.hid (B2.out.trans (b3.mono B2.out.size))
    clear b3
    go_wp2_with fail
    go_ret
    exact ⟨rfl, B3.out⟩
  | true =>
    have HM := Lib.hid (fun w' (hb : Below w.heap.size w w') => may12_any w' a n ca zs HLn.out (HA.out w' hb) HTot.out)
    rw [hm] at HM
    simp only [Bool.and_eq_true, decide_eq_true_eq] at hm
    have hn4 : n ≤ 400 := hm.2
    have HZ := Lib.hid (fitsT_all hm.1)
    clear hm
    go_enter Tryd.func6, Tryd.ntmps6
    go_wp2_with fail
    refine (HAl.out _ (Below.refl _ _)).mono ?_
    rintro e w1 ⟨rfl, b1⟩
    have B1 := Lib.hid b1
    clear b1
    go_wp2_with fail
    refine (HM.out _ B1.out).mono ?_
    rintro e w2 ⟨rfl, b2⟩
    have B2 := Lib.hid (B1.out.trans (b2.mono B1.out.size))
    have HO := Lib.hid (ofL (HLd.out _ B2.out) a n ca zs HLn.out (HA.out _ B2.out) HZ.out (by omega))
    clear b2
    go_wp2_with fail
    refine HO.out.mono ?_
    rintro e w3 ⟨⟨l, F, rfl, q3, k3⟩, b3⟩
    have hb3 : Below w.heap.size w w3 := B2.out.trans (b3.mono B2.out.size)
    have HK := Lib.hid (show ∀ k, F k → w.heap.size ≤ k from fun k hk => Nat.le_trans B2.out.size (k3 k hk))
    have HR3 := Lib.hid (rangeL (HLd.out _ hb3) q3 0 (-1) (by omega) (by omega))
    rw [rngL_all] at HR3
    have HQ3 := Lib.hid (And.intro q3 hb3)
    clear q3 k3 b3 hb3 HO
    go_wp2_with fail
    refine HR3.out.mono ?_
    rintro e w4 ⟨⟨v4, rfl, s4⟩, b4⟩
    obtain ⟨a4, c4, rfl, har4⟩ := texts_of_slice s4
    have hb4 : Below w.heap.size w w4 := HQ3.out.2.trans (b4.mono HQ3.out.2.size)
    have HS4 := Lib.hid (sameTexts_any w4 a4 a zs.length n c4 ca zs zs rfl HLn.out har4 (HA.out _ hb4) (by have := HLn.out; omega))
    rw [decide_eq_true rfl] at HS4
    have HQ4 := Lib.hid (And.intro (HQ3.out.1.below b4) hb4)
    clear s4 har4 b4 hb4 HR3
    go_wp2_with fail
    refine HS4.out.mono ?_
    rintro e w5 ⟨rfl, d5, hw5⟩
    have hd5 : Below w4.heap.size w4 w5 := by rw [hw5]; exact belowN (Below.refl _ _) _
    have hb5 : Below w.heap.size w w5 := HQ4.out.2.trans (hd5.mono HQ4.out.2.size)
    have q5 := HQ4.out.1.below hd5
    have HR5 := Lib.hid (rangeL (HLd.out _ hb5) q5 f t hf ht)
    have HQ5 := Lib.hid (And.intro q5 hb5)
    clear hw5 hd5 hb5 q5 HS4
    go_wp2_with fail
    refine HR5.out.mono ?_
    rintro e w6 ⟨⟨v6, rfl, s6⟩, b6⟩
    obtain ⟨a6, c6, rfl, har6⟩ := texts_of_slice s6
    have hvb : ∀ k, (∃ b o, a6 = some ⟨b, o, none⟩ ∧ k = b) → ¬ F k := by
      rintro k ⟨b, o, e, rfl⟩ hk
      subst e
      have h1 := (s6.block_lt (k := k) rfl).1
      have h2 := HQ5.out.1.lt hk
      omega
    have hb6 : Below w.heap.size w w6 := HQ5.out.2.trans (b6.mono HQ5.out.2.size)
    have q6 := HQ5.out.1.below b6
    have HS6 := Lib.hid q6.small
    have HQ6 := Lib.hid (And.intro q6 (And.intro hb6 (And.intro har6 hvb)))
    clear s6 har6 b6 hvb hb6 q6 HR5
    go_wp2_with fail
    refine HS6.out.mono ?_
    rintro e w7 ⟨rfl, b7⟩
    have hb7 : Below w.heap.size w w7 := HQ6.out.2.1.trans (b7.mono HQ6.out.2.1.size)
    have q7 := HQ6.out.1.below b7
    have HT7 := Lib.hid (trimL HL.out hb7 hb7.size q7 HK.out f t hf ht)
    have HQ7 := Lib.hid (And.intro q7 (And.intro hb7 (HQ6.out.2.2.1.belowT b7)))
    clear b7 hb7 q7 HS6
    go_wp2_with fail
    refine HT7.out.mono ?_
    rintro e w8 ⟨⟨vv, rfl⟩, ⟨F8, q8, f8⟩, c8⟩
    have hb8 : Below w.heap.size w w8 := belowChg HQ7.out.2.1 c8 HQ7.out.2.1.size fun k hk _ => HK.out k hk
    have har8 := HQ7.out.2.2.chgT c8 HQ6.out.2.2.2
    have HR8 := Lib.hid (rangeL (HLd.out _ hb8) q8 0 (-1) (by omega) (by omega))
    rw [rngL_all] at HR8
    have HQ8 := Lib.hid (And.intro q8 (And.intro hb8 har8))
    clear q8 f8 c8 hb8 har8 HT7
    have hrl := rngL_le zs f t
    have HLz := Lib.hid HLn.out
    rw [HLn.out] at hrl
    obtain ⟨R, hR⟩ : ∃ R, R = rngL zs f t := ⟨_, rfl⟩
    rw [← hR] at HR8 HQ8 hrl ⊢
    obtain ⟨m, hm⟩ : ∃ m, m = R.length := ⟨_, rfl⟩
    rw [← hm] at HR8 HQ8 hrl ⊢
    have HRm := Lib.hid hm
    clear hR hm
    go_wp2_with fail
    refine HR8.out.mono ?_
    rintro e w9 ⟨⟨v9, rfl, s9⟩, b9⟩
    rw [HRm.out] at s9
    obtain ⟨a9, c9, rfl, har9⟩ := texts_of_slice s9
    rw [← HRm.out] at har9
    have hb9 : Below w.heap.size w w9 := HQ8.out.2.1.trans (b9.mono HQ8.out.2.1.size)
    have HS9 := Lib.hid (sameTexts_any w9 a9 a6 m m c9 c6 R R HRm.out.symm HRm.out.symm har9 (HQ8.out.2.2.belowT b9) (by omega))
    rw [decide_eq_true rfl] at HS9
    have HQ9 := Lib.hid (And.intro (HQ8.out.1.below b9) hb9)
    rw [← HRm.out]
    clear s9 har9 b9 hb9 HR8
    go_wp2_with fail
    refine HS9.out.mono ?_
    rintro e w10 ⟨rfl, d10, hw10⟩
    have hd10 : Below w9.heap.size w9 w10 := by rw [hw10]; exact belowN (Below.refl _ _) _
    have q10 := HQ9.out.1.below hd10
    have HL10 := Lib.hid q10.len
    rw [← HRm.out] at HL10
    have HS10 := Lib.hid q10.small
    have HB10 := Lib.hid (HQ9.out.2.trans (hd10.mono HQ9.out.2.size))
    clear hw10 hd10 q10 HS9
    go_wp2_with fail
    refine HL10.out.mono ?_
    rintro e w' ⟨rfl, rfl⟩
    go_wp2_with fail
    refine HS10.out.mono ?_
    rintro e w11 ⟨rfl, b11⟩
    have HB11 := Lib.hid (HB10.out.trans (b11.mono HB10.out.size))
    clear b11
    go_wp2_with fail
    go_ret
    exact ⟨rfl, HB11.out⟩
theorem listTrims_walk {w : World} (hl : Laid w) (a : Option Addr) (n ca : Nat) (zs : List ByteArray) (f t : Int) (ha : zs.length = n ∧ ArgRow w a n ca fun i => .string (zs.getD i ByteArray.empty)) (ta : totalT zs ≤ 1048576)
    (hf : (Lit.int .i64 f).wf = true) (ht : (Lit.int .i64 t).wf = true) :
    Calls Tryd.prog 6 #[.slice a n ca, .int .i64 f, .int .i64 t] w fun e w' => e = .returned (.bool true) ∧ Below w.heap.size w w' :=
  listTrims_all hl a n ca zs f t ha ta (i64_wf hf) (i64_wf ht)
end Go.Proofs.YtlecnlnpgghmbaaDoor

/- what a row's list of variables gives (door seats): Laid; and a world that meets it. -/
namespace Go.Proofs.YtlecnlnpgghmbaaDoor
set_option linter.unusedVariables false
set_option linter.unusedSimpArgs false
open Go.RowKit
namespace Lay
theorem star : "*" ++ "errors.errorString" = "*errors.errorString" := by decide
theorem rowErr (u : TypeId) (h : Tryd.prog.typeName? 3 u = some "*errors.errorString") : u = 130 :=
  typeName_ptr_named (nm := "errors.errorString") (by rw [star]; kernel_rfl) (by kernel_rfl) (by decide) u (by rw [star]; exact h)
theorem laid_of {W : World} (h : laidMetH Tryd.prog Rows.listEndsRow.laid W) (hs : W.ShapedOpen Tryd.prog) : Laid W := by
  have h0 : laidMet Tryd.prog Rows.listEndsRow.laid W := h
  have h3 : laidMet Tryd.prog [("internal/strconv.uint64pow10", Rows.laid_internal_strconv_uint64pow10), ("strconv.ErrRange", Rows.laid_strconv_ErrRange), ("strconv.ErrSyntax", Rows.laid_strconv_ErrSyntax)] W := h0.tail.tail
  refine { tab := Lib.tabIs_of_head (n := 20) (g := 2) (by kernel_rfl) (by kernel_rfl) Tryd.underlying124 Tryd.underlying80 (by kernel_rfl) (by kernel_rfl) h3, syn := ?_, rng := ?_
         }
  · obtain ⟨a, _, hv, _⟩ := laid_sentinel (g := 0) h3.tail.tail (by kernel_rfl) (by kernel_rfl) Tryd.underlying101 rowErr Tryd.underlying130 Tryd.underlying132 rfl rfl Tryd.underlying9 (by kernel_rfl) (by kernel_rfl)
    exact ⟨_, _, hv⟩
  · obtain ⟨a, _, hv, _⟩ := laid_sentinel (g := 1) h3.tail (by kernel_rfl) (by kernel_rfl) Tryd.underlying101 rowErr Tryd.underlying130 Tryd.underlying132 rfl rfl Tryd.underlying9 (by kernel_rfl) (by kernel_rfl)
    exact ⟨_, _, hv⟩
/-- So many blocks has the settled world. -/
noncomputable def low : Nat := (World.holding Tryd.prog default ⟨#[], #[], []⟩).heap.size
abbrev synS : ByteArray := { data := #[105, 110, 118, 97, 108, 105, 100, 32, 115, 121, 110, 116, 97, 120] }
abbrev rngS : ByteArray := { data := #[118, 97, 108, 117, 101, 32, 111, 117, 116, 32, 111, 102, 32, 114, 97, 110, 103, 101] }
def lits : List (DataW Unit) → Array Value
  | [] => #[]
  | .lit (.int k n) :: l => #[.int k n] ++ lits l
  | _ :: l => lits l
def table : DataW Unit → Array Value
  | .agg l => lits l
  | _ => #[]
def into (cs : Array Value) : Obj → Obj
  | .cells _ t frozen => .cells cs t frozen
  | o => o
noncomputable def laidWorld (os : Os) : World :=
  let w0 := World.holding Tryd.prog os ⟨#[.cells #[.string synS] 132, .cells #[.string rngS] 132], #[], []⟩
  { w0 with heap := ((((w0.heap.modify 2 (into (table Rows.laid_internal_strconv_uint64pow10))).modify 3 (into (table Rows.laid_math_bits_deBruijn32tab))).modify 4 (into (table Rows.laid_math_bits_deBruijn64tab))).modify 0 (into #[.iface 130 (.pointer (some ⟨low, 0, none⟩))])).modify 1 (into #[.iface 130 (.pointer (some ⟨low + 1, 0, none⟩))]) }
theorem laid_met (os : Os) (args : Array Value) : laidMet Tryd.prog Rows.listEndsRow.laid ((laidWorld os).forCall (fun _ _ => 0) ⟨#[], args, []⟩).memory :=
  laidMet_of_run' 8 (by kernel_rfl) (by kernel_rfl)
end Lay
end Go.Proofs.YtlecnlnpgghmbaaDoor

/- The row of the law ListTrims, and its card: for every input of at most 1048576 values and letters the Go function returns true and its arguments read as before, out of the walk listTrims_walk. The library's variables that the row lists hold what the program's text lays (the card's tie, given). -/
namespace Go.Proofs.YtlecnlnpgghmbaaDoor.listTrimsRow
open Go.ChangeShapes Go.WideShapes Go.ChangeAt Go.RowKit
open Go.ChangeMaps (open_string shut_string)
set_option linter.unusedVariables false
set_option linter.unusedSimpArgs false
theorem own : ownKnob Tryd.prog.godebug = none := by kernel_rfl
theorem laidOut : laidOutB Tryd.prog = true := by kernel_rfl
theorem bulk {H : Type} {l : List (DataW H)} (hk : Rows.uptoSmall H l = true) : Rows.uptoBulkAll l ≤ 1048576 := of_decide_eq_true hk
theorem reads (os : Os) {H : Type} (enc : TypeId × Value → H) : ∃ places, DataW.whole enc Tryd.prog ((Lay.laidWorld os).forCall (fun _ _ => 0) ⟨#[], #[.slice none 0 0, .int .i64 0, .int .i64 0], []⟩).memory Tryd.f6.params.toList Rows.listTrimsSpec.vars false (#[.slice none 0 0, .int .i64 0, .int .i64 0] : Array Value).toList 8 = some ([.nil, .lit (.int .i64 0), .lit (.int .i64 0)], [], places) :=
  ⟨[], by kernel_rfl⟩
set_option maxRecDepth 100000 in
theorem contract (H : Type) (enc : TypeId × Value → H) (W : World) (base : Nat) (args : Array Value) (ds gs : List (DataW H)) (before : List MemPlace)
    (hval0 : ∀ (j : Nat) t v, Tryd.f6.params[j]? = some t → args[j]? = some v → Value.okWide Tryd.prog W .any base t v)
    (hW : DataW.Whole enc Tryd.prog Tryd.f6.params.toList Rows.listTrimsSpec.vars false W args.toList ds gs before) (hk0 : Rows.uptoSmall H (ds ++ gs) = true)
    (hsz0 : (DataW.weightsEach Tryd.prog (Tryd.f6.params.toList ++ Rows.listTrimsSpec.plain.varTypes Tryd.prog) (ds ++ gs)).all (· ≤ reachBytes) = true) (hL : Laid W) :
    Calls Tryd.prog 6 args W fun e W' => ∃ v, e = .returned v ∧ Rows.listTrimsSpec.post enc Tryd.prog Tryd.f6 false true false false W args v W' := by
  have hsz := hsz0
  have hk := bulk hk0
  have hval : ∀ (j : Nat) t v, Tryd.f6.params[j]? = some t → args[j]? = some v → Value.okWide Tryd.prog W .any base t v := hval0
  have hW' := hW
  obtain ⟨p, q, hA0, hV, rfl, hfz, hnd⟩ := hW
  have hA : DataW.TrodAll enc Tryd.prog W 0 (fun _ => true) true Tryd.f6.params.toList args.toList ds p := hA0
  rw [Tryd.params6] at hA hval hsz
  obtain ⟨v0, vs0, d0, ds0, p0, q0, hargs, rfl, rfl, h0, r0⟩ := trodAll_cons hA
  obtain ⟨v1, vs1, d1, ds1, p1, q1, rfl, rfl, rfl, h1, r1⟩ := trodAll_cons r0
  obtain ⟨v2, vs2, d2, ds2, p2, q2, rfl, rfl, rfl, h2, r2⟩ := trodAll_cons r1
  obtain ⟨rfl, rfl, rfl⟩ := trodAll_nil r2
  obtain rfl : args = #[v0, v1, v2] := by cases args; simp_all
  obtain ⟨rfl, rfl⟩ := trodVars_none hV
  have k0 := h0
  have lt0 : ∀ x ∈ p0, x.block < W.heap.size := by obtain ⟨m, hm⟩ := k0; exact DataW.trod_lt m _ _ _ hm
  obtain ⟨a0, len0, cap0, rfl⟩ := okWide_slice Tryd.underlying22 (hval 0 22 v0 rfl rfl)
  have b0 : Rows.uptoBulk d0 ≤ 1048576 := by
    have := hk
    simp only [List.cons_append, List.nil_append, List.append_nil, Rows.uptoBulkAll] at this
    omega
  obtain ⟨z0, w0, y0⟩ := texts_arg h0 b0
  have k1 := h1
  have lt1 : ∀ x ∈ p1, x.block < W.heap.size := by obtain ⟨m, hm⟩ := k1; exact DataW.trod_lt m _ _ _ hm
  obtain ⟨a1, rfl, rfl, rfl, w1⟩ := open_int Tryd.underlying3 (hval 1 3 v1 rfl rfl) h1
  have k2 := h2
  have lt2 : ∀ x ∈ p2, x.block < W.heap.size := by obtain ⟨m, hm⟩ := k2; exact DataW.trod_lt m _ _ _ hm
  obtain ⟨a2, rfl, rfl, rfl, w2⟩ := open_int Tryd.underlying3 (hval 2 3 v2 rfl rfl) h2
  simp only [List.cons_append, List.nil_append, List.append_nil, Rows.uptoBulkAll, Rows.uptoBulk] at hk
  clear hA0 hval0 hsz0 hsz
  refine (listTrims_walk hL a0 len0 cap0 z0 a1 a2 w0 y0 w1 w2).mono fun e W' ⟨he, bel⟩ => ?_
  subst he
  exact ⟨_, rfl, _, _, _, [], _, [], hW', trodAll_mk1 (shut_bool Tryd.underlying4 _), (trodAll_cons_mk (Below.trod laidOut (by kernel_rfl) (of_decide_eq_true (by kernel_rfl)) k0 bel lt0) (trodAll_cons_mk (Below.trod laidOut (by kernel_rfl) (of_decide_eq_true (by kernel_rfl)) k1 bel lt1) (trodAll_cons_mk (Below.trod laidOut (by kernel_rfl) (of_decide_eq_true (by kernel_rfl)) k2 bel lt2) trodAll_mk0))), rfl, bel.frame _, fun h => by cases h⟩
set_option maxRecDepth 100000 in
theorem liftedUpto (os : Os) (started : os.Started) (H : Type) (enc : TypeId × Value → H) (F : Stop.Interp) :
    ReturnsInHanded {} Tryd.checked os 6 .any ((Rows.OpenSpec.upto Rows.listTrimsSpec).preRow enc Tryd.prog Tryd.f6 Rows.listTrimsUptoRow.domain false Rows.listTrimsUptoRow.laid) (((Rows.OpenSpec.upto Rows.listTrimsSpec).at F).post enc Tryd.prog Tryd.f6 false true false false) := by
  obtain ⟨places, hx⟩ := reads os enc
  refine returnsInHanded_of_row (C := Tryd.checked) (s := (Rows.OpenSpec.upto Rows.listTrimsSpec)) own started (by kernel_rfl) Tryd.func6
    (witness_row_at (enc := enc) (C := Tryd.checked) false (Lay.laidWorld os) #[.slice none 0 0, .int .i64 0, .int .i64 0] rfl (by kernel_rfl) (by kernel_rfl) (by kernel_rfl)
      (OpenSpec.preRow_of_cond 8 hx (by kernel_rfl) (fun k hk => by cases hk; kernel_rfl) (by kernel_rfl) (Lay.laid_met os _))) ?_
  intro W base args ds gs before hval hW _ hcond hsz hL hS _
  exact contract H enc W base args ds gs before hval hW (hcond _ rfl) hsz (Lay.laid_of hL hS)
theorem saidUpto : Rows.ListTrimsUptoSaid :=
  OpenClaim.holds_of_cond 6 Tryd.f6 rfl rfl rfl rfl rfl rfl rfl ⟨rfl, rfl, rfl, rfl, rfl⟩ rfl rfl rfl rfl rfl (by kernel_rfl) Tryd.func6 (by kernel_rfl)
    (of_decide_eq_true (by kernel_rfl)) (by unfold Func.isWrapper; first | (rw [if_pos (by decide +kernel)]; kernel_rfl) | (rw [if_neg (by decide +kernel)]; exact ⟨rfl, rfl⟩))
    (fun os started H enc _ F => by rw [OpenClaim.pre_eq_preRow]; exact liftedUpto os started H enc F)
theorem plain (f : FuncId) (fn : Func) (hf : Tryd.pinned.checked.prog.funcNamed "stillroom/stillroomlaw12.ListTrims" = some f) (hfn : Tryd.pinned.checked.prog.funcs[f]? = some fn) :
    true = Tryd.pinned.checked.prog.looks [] ∧ ∀ (j : Nat) t, fn.params[j]? = some t → Tryd.pinned.checked.prog.wantsStandIn t = false := by
  obtain rfl : f = 6 := Option.some.inj ((show Tryd.prog.funcNamed "stillroom/stillroomlaw12.ListTrims" = some 6 by kernel_rfl).symm.trans hf) |>.symm
  obtain rfl : fn = Tryd.f6 := (Option.some.inj (Tryd.func6.symm.trans hfn)).symm
  refine ⟨by kernel_rfl, fun j t ht => ?_⟩
  rw [Tryd.params6] at ht
  have ht := Array.mem_of_getElem? ht
  have all : ∀ t ∈ (#[22, 3, 3] : Array TypeId), Tryd.prog.wantsStandIn t = false := by
    intro t ht
    simp only [List.mem_toArray, List.mem_cons, List.not_mem_nil, or_false] at ht
    rcases ht with rfl | rfl | rfl <;> kernel_rfl
  exact all t ht
end Go.Proofs.YtlecnlnpgghmbaaDoor.listTrimsRow
namespace Go.Proofs.YtlecnlnpgghmbaaDoor
open Go.Proofs.YtlecnlnpgghmbaaDoor.listTrimsRow in
/-- The law's card. -/
theorem listTrims_holds : Rows.ListTrimsUptoCardSaid :=
  Claim7.holds_tied_plain_at .later [] _ _ _ _ saidUpto (fun _ h => by cases h) (by kernel_rfl) (fun _ h => by cases h) listTrimsUpto_row_tie rfl ⟨rfl, rfl⟩ (by kernel_rfl) rfl plain (by kernel_rfl)
end Go.Proofs.YtlecnlnpgghmbaaDoor
