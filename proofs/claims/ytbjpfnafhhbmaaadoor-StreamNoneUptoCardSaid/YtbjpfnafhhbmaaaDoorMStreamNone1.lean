/- The row of the law StreamNone, and its card: for every input of at most 1048576 values and letters the Go function returns true and its arguments read as before, out of the walk streamNone_walk. The library's variables that the row lists hold what the program's text lays (the card's tie, given). -/
import Derived.Test.YtbjpfnafhhbmaaaDoorMD4
import Derived.Test.YtbjpfnafhhbmaaaDoorMD3
import Derived.Test.YtbjpfnafhhbmaaaDoorRows
import Derived.Stop.LaidErr
import Derived.Lib.LaidTab
import Derived.LaidLaws
import Derived.Test.YtbjpfnafhhbmaaaDoorMD1
import Derived.ChangeSame
import Derived.Test.YtbjpfnafhhbmaaaDoorCards
import Derived.Test.YtbjpfnafhhbmaaaDoorTie
import Derived.WalkKit
import Derived.ProofKit
import Derived.OpenShut
import Derived.ShutString
import Derived.ChangeOld
import Derived.Below
import Derived.SizedLaws
import Derived.Laws.Cover2
import Derived.Lib.SmallJoins
import Derived.Deep.Slices
import Derived.Deep.SlicePairs
import Derived.SliceStrings
import Derived.JoinedCond
import Derived.Deep.DeepHandedRow
/- StreamNone's walk. -/
namespace Go.Proofs.YtbjpfnafhhbmaaaDoor.Sad
open Go.Proofs.YtbjpfnafhhbmaaaDoor
set_option linter.unusedVariables false
set_option linter.unusedSimpArgs false
open Go.RowKit RT Go.Shelf
/-- A stream that is not there. -/
def INone (v : Value) (w : World) (F : Nat → Prop) : Prop := Gone w v ∧ ∀ k, F k ↔ v = .pointer (some ⟨k, 0, none⟩)
theorem INone.lt {v : Value} {w : World} {F : Nat → Prop} (h : INone v w F) : ∀ k, F k → k < w.heap.size := fun k hk => by
  have e := (h.2 k).1 hk
  rcases h.1 with h' | ⟨z, h', hz⟩
  · rw [h'] at e; cases e
  · rw [h'] at e
    cases e
    exact heap_lt hz
theorem INone.chg {v : Value} {w w' : World} {F S : Nat → Prop} (h : INone v w F) (hc : Chg S w w') (hs : ∀ k, F k → ¬ S k) : INone v w' F := by
  refine ⟨h.1.imp id fun ⟨z, e, hz⟩ => ⟨z, e, hc.keep hz fun hS => hs z ((h.2 z).2 e) hS⟩, h.2⟩
theorem INone.below {v : Value} {w w' : World} {F : Nat → Prop} (h : INone v w F) (hb : Below w.heap.size w w') : INone v w' F := h.chg (Chg.of_below (fun _ => False) hb) fun _ _ => id
theorem done_no {v a : Value} {w w' : World} {F : Nat → Prop} (h : INone v w F) (hb : Below w.heap.size w w') : Done (INone v) F w a (.returned a) w' := ⟨rfl, F, h.below hb, fun k hk => .inl hk, Chg.of_below _ hb⟩
def noAns : Ans := ⟨2, (0, 0), false, 0, []⟩
theorem row_none (w : World) : EntRow w none 0 0 [] := ⟨rfl, Nat.le_refl _, .inl rfl⟩
theorem side_gone (v : Value) (A : AskN) : SideS v (INone v) (INone v) A noAns where
  lt := fun w F h => h.lt
  lt' := fun w F h => h.lt
  chg := fun w w' F S h hc hs => h.chg hc hs
  chg' := fun w w' F S h hc hs => h.chg hc hs
  add := fun _ w F a c h hp => (add_no h.1 _ _ _ _ _).mono fun e w' ⟨he, hb⟩ => by rw [he]; exact done_no h hb
  next := fun _ w F h => (next_gone h.1 _).mono fun e w' ⟨he, hb⟩ => by rw [he]; exact done_no h hb
  del := fun _ w F h => (delete_no h.1 _ _).mono fun e w' ⟨he, hb⟩ => by rw [he]; exact done_no h hb
  setLast := fun _ w F h => (setLast_no h.1 _ _).mono fun e w' ⟨he, hb⟩ => by rw [he]; exact done_no h hb
  range := fun _ w F h => (range_no h.1 _ _ _ _ _).mono fun e w' ⟨he, hb⟩ => ⟨none, 0, he, row_none _, h.below hb, hb⟩
  trim := fun _ _ _ _ _ w F h => (trim_no h.1 _).mono fun e w' ⟨he, hw⟩ => by rw [he, hw]; exact done_no h (Below.refl _ _)
  few := by decide
theorem gone_nil (w : World) : Gone w (.pointer none) := .inl rfl
theorem inone_nil (w : World) : INone (.pointer none) w (fun _ => False) := ⟨gone_nil w, fun k => ⟨False.elim, fun h => by cases h⟩⟩
theorem side_ref_none (A : AskN) : SideX (.pointer none) (INone (.pointer none)) (INone (.pointer none)) A noAns where
  lt := fun w F h => h.lt
  lt' := fun w F h => h.lt
  chg := fun w w' F S h hc hs => h.chg hc hs
  chg' := fun w w' F S h hc hs => h.chg hc hs
  add := fun _ w F a c h hp => (refAdd_no w _ _ _ _ _).mono fun e w' ⟨he, hb⟩ => by rw [he]; exact done_no h hb
  next := fun _ w F h => (refNext_no w _).mono fun e w' ⟨he, hb⟩ => by rw [he]; exact done_no h hb
  del := fun _ w F h => (refDelete_no w _ _).mono fun e w' ⟨he, hb⟩ => by rw [he]; exact done_no h hb
  setLast := fun _ w F h => (refSetLast_no w _ _).mono fun e w' ⟨he, hb⟩ => by rw [he]; exact done_no h hb
  range := fun _ w F h => (refRange_no w _ _ _ _ _).mono fun e w' ⟨he, hb⟩ => ⟨none, 0, he, row_none _, h.below hb, hb⟩
  trim := fun _ _ _ _ _ w F h => (refTrim_no w _).mono fun e w' ⟨he, hw⟩ => by rw [he, hw]; exact done_no h (Below.refl _ _)
  few := by decide
theorem said_gone (v : Value) : SaidS v (fun w => Gone w v) 0 (0, 0) 0 [] where
  below := fun w w' h hb => h.below hb
  len := fun w h => (len_no h).mono fun e w' ⟨he, hw⟩ => ⟨he, by rw [hw]; exact Below.refl _ _⟩
  last := fun w h => last_no h
  charge := fun w h => charge_no h
  range := fun w h => (range_no h _ _ _ _ _).mono fun e w' ⟨he, hb⟩ => ⟨none, 0, he, row_none _, hb⟩
theorem said_ref_none : SaidX (.pointer none) (fun _ => True) 0 (0, 0) 0 [] where
  below := fun w w' h hb => h
  len := fun w h => (refLen_no w).mono fun e w' ⟨he, hw⟩ => ⟨he, by rw [hw]; exact Below.refl _ _⟩
  last := fun w h => refLast_no w
  charge := fun w h => (refCharge_no w).mono fun e w' ⟨he, hw⟩ => ⟨he, by rw [hw]; exact Below.refl _ _⟩
  range := fun w h => (refRange_no w _ _ _ _ _).mono fun e w' ⟨he, hb⟩ => ⟨none, 0, he, row_none _, hb⟩
theorem stands_none {w : World} {v : Value} (h : Gone w v) : Calls Tryd.prog 21 #[v, .pointer none] w fun e w' => e = .returned (.bool true) ∧ Below w.heap.size w w' :=
  stands_any (said_gone v) said_ref_none (by decide) h trivial
/-- An ask of what is not there. -/
theorem asks_none {w0 w : World} {v : Value} {F : Nat → Prop} (h : INone v w F) (hB : ∀ k, F k → w0.heap.size ≤ k) (h0 : Below w0.heap.size w0 w) {A : AskN} {b o : Nat} (hA : AskAt w0 b o A) :
    Calls Tryd.prog 20 #[v, .pointer none, askV A] w fun e w' => e = .returned (.bool true) ∧ INone v w' F ∧ Below w0.heap.size w0 w' ∧ Chg F w w' := by
  have hb : ∀ w', Chg (fun k => F k ∨ False) w w' → Below w0.heap.size w0 w' := fun w' hc => belowChg h0 hc h0.size fun k hk _ => hB k (hk.resolve_right id)
  refine (asks_any (side_gone v A) (side_ref_none A) (F := F) (G := fun _ => False) ⟨h, inone_nil w, fun _ _ => id⟩ (fun w' hc => hA.row.below (hb w' hc)) (Nat.le_trans hA.nle (by decide))).mono ?_
  rintro e w' ⟨rfl, F', G', ⟨h1, h2, h3⟩, _, _, hc⟩
  exact ⟨rfl, ⟨h1.1, h.2⟩, hb w' hc, hc.mono fun k hk _ => hk.resolve_right id⟩
end Go.Proofs.YtbjpfnafhhbmaaaDoor.Sad

/- StreamNone's walk and its row form. -/
namespace Go.Proofs.YtbjpfnafhhbmaaaDoor.Sad
open Go.Proofs.YtbjpfnafhhbmaaaDoor
set_option linter.unusedVariables false
set_option linter.unusedSimpArgs false
open Go.RowKit RT Go.Shelf
set_option maxHeartbeats 6400000 in
set_option maxRecDepth 100000 in
theorem streamNone_walk {w : World} (hl : Laid w) {a : Option Addr} {n c : Nat} {Q : List AskN} (h : AskRow w a n c Q) (hn : n ≤ 281474976710656) :
    Calls Tryd.prog 7 #[.slice a n c] w fun e w' => e = .returned (.bool true) ∧ Below w.heap.size w w' := by
  have HV := Lib.hid (fun w' (hb : Below w.heap.size w w') => lives_any (hl.below hb))
  obtain ⟨w1, hw1⟩ : ∃ w1, w1 = w.alloc (.cells #[.pointer none, .int .u64 0, .int .u64 0] 53) := ⟨_, rfl⟩
  have hb1 : Below w.heap.size w w1 := by rw [hw1]; exact (Below.refl _ _).alloc (Nat.le_refl _) _
  have hz : INone (.pointer (some ⟨w.heap.size, 0, none⟩)) w1 (fun k => k = w.heap.size) := by
    refine ⟨.inr ⟨_, rfl, by rw [hw1]; exact heap_new _ _⟩, fun k => ⟨fun e => by rw [e], fun e => by cases e; rfl⟩⟩
  have H1 := Lib.hid (show INone (.pointer (some ⟨w.heap.size, 0, none⟩)) w1 (fun k => k = w.heap.size) ∧ Below w.heap.size w w1 from ⟨hz, hb1⟩)
  have HR := Lib.hid h
  have HW := Lib.hid hw1
  clear hl h hw1 hb1 hz
  go_enter Tryd.func7, Tryd.ntmps7
  go_upto_region 2 with (fail)
  rw [← HW.out]
  go_wp2_with fail
  go_loopw [4] (fun i wr => ∃ k : Nat, (k ≤ n ∧ k ≤ 50) ∧ i = .int .i64 k ∧ Hid (INone (.pointer (some ⟨w.heap.size, 0, none⟩)) wr (fun k => k = w.heap.size) ∧ Below w.heap.size w wr)) (fun i _ => n - (intOf i).toNat)
  case atStart => exact ⟨0, ⟨Nat.zero_le _, Nat.zero_le _⟩, rfl, H1⟩
  case round =>
    obtain ⟨k, ⟨hk, hk2⟩, rfl, hI⟩ := hrel
    by_cases hlt : k < n ∧ k < 50
    · obtain ⟨hlt, hlt2⟩ := hlt
      obtain ⟨b, o, A, rfl, hA, hQ⟩ := HR.out.get hlt
      have hAr := hA.below hI.out.2
      have c0 := hAr.c0
      have c1 := hAr.c1
      have c2 := hAr.c2
      have c3 := hAr.c3
      have c4 := hAr.c4
      have c5 := hAr.c5
      have c6 := hAr.c6
      have HC1 := Lib.hid (asks_none (w0 := w) (inone_nil wr) (fun _ h => h.elim) hI.out.2 hA)
      have HA := Lib.hid hA
      have j1 : (k : Int) < (n : Int) := by omega
      have j2 : decide ((k : Int) < 50) = true := decide_eq_true (by omega)
      have HK := Lib.hid (And.intro hlt hlt2)
      clear hAr hA hQ
      go_wp2_with fail
      refine HC1.out.mono ?_
      rintro e w2 ⟨rfl, _, b2, hc2⟩
      have HC2 := Lib.hid (asks_none (w0 := w) (hI.out.1.chg hc2 fun _ _ => id) (fun k hk => Nat.le_of_eq hk.symm) b2 HA.out)
      have hAr := HA.out.below b2
      have d0 := hAr.c0
      have d1 := hAr.c1
      have d2 := hAr.c2
      have d3 := hAr.c3
      have d4 := hAr.c4
      have d5 := hAr.c5
      have d6 := hAr.c6
      clear hAr hc2 b2 HC1
      go_wp2_with fail
      refine HC2.out.mono ?_
      rintro e w3 ⟨rfl, h3, b3, _⟩
      have HN := Lib.hid (And.intro h3 b3)
      clear h3 b3 HC2 c0 c1 c2 c3 c4 c5 c6 d0 d1 d2 d3 d4 d5 d6
      go_wp2_with fail
      go_roundw
      case rel => exact ⟨k + 1, ⟨by omega, by omega⟩, by go_num, HN⟩
      case measure => simp [intOf]; omega
    · have hE : Hid (INone (.pointer (some ⟨w.heap.size, 0, none⟩)) wr (fun k => k = w.heap.size) ∧ Below w.heap.size w wr) := hI
      have HS1 := Lib.hid (stands_none (gone_nil wr))
      have HS2 := Lib.hid (fun w' (hb : Below wr.heap.size wr w') => stands_none (hI.out.1.1.below hb))
      rcases Nat.lt_or_ge k n with hkn | hkn
      · obtain rfl : k = 50 := by omega
        have j1 : ((50 : Nat) : Int) < (n : Int) := by omega
        go_wp2_with fail
        refine HS1.out.mono ?_
        rintro e w2 ⟨rfl, b2⟩
        have HB2 := Lib.hid b2
        clear b2
        go_wp2_with fail
        refine (HS2.out _ HB2.out).mono ?_
        rintro e w3 ⟨rfl, b3⟩
        have HB3 := Lib.hid (hE.out.2.trans ((HB2.out.trans (b3.mono HB2.out.size)).mono hE.out.2.size))
        clear b3
        go_wp2_with fail
        refine (HV.out _ HB3.out).mono ?_
        rintro e w4 ⟨rfl, b4⟩
        have HB4 := Lib.hid (HB3.out.trans (b4.mono HB3.out.size))
        clear b4
        go_wp2_with fail
        go_ret
        exact ⟨rfl, HB4.out⟩
      · obtain rfl : n = k := by omega
        go_wp2_with fail
        refine HS1.out.mono ?_
        rintro e w2 ⟨rfl, b2⟩
        have HB2 := Lib.hid b2
        clear b2
        go_wp2_with fail
        refine (HS2.out _ HB2.out).mono ?_
        rintro e w3 ⟨rfl, b3⟩
        have HB3 := Lib.hid (hE.out.2.trans ((HB2.out.trans (b3.mono HB2.out.size)).mono hE.out.2.size))
        clear b3
        go_wp2_with fail
        refine (HV.out _ HB3.out).mono ?_
        rintro e w4 ⟨rfl, b4⟩
        have HB4 := Lib.hid (HB3.out.trans (b4.mono HB3.out.size))
        clear b4
        go_wp2_with fail
        go_ret
        exact ⟨rfl, HB4.out⟩
end Go.Proofs.YtbjpfnafhhbmaaaDoor.Sad
namespace Go.Proofs.YtbjpfnafhhbmaaaDoor
set_option linter.unusedVariables false
open Go.RowKit Sad
theorem streamNone_walk {w : World} (hl : Laid w) (a : Option Addr) (n c : Nat) (Q : List AskN) (h : AskRow w a n c Q) (hn : n ≤ 1048576) (hq : ∀ A ∈ Q, ∀ p ∈ A.L, p.1.size + p.2.size ≤ 1048576) :
    Calls Tryd.prog 7 #[.slice a n c] w fun e w' => e = .returned (.bool true) ∧ Below w.heap.size w w' :=
  Sad.streamNone_walk hl h (by omega)
end Go.Proofs.YtbjpfnafhhbmaaaDoor

/- what a row's list of variables gives (door seats): Laid; and a world that meets it. -/
namespace Go.Proofs.YtbjpfnafhhbmaaaDoor
set_option linter.unusedVariables false
set_option linter.unusedSimpArgs false
open Go.RowKit
namespace Lay
theorem star : "*" ++ "errors.errorString" = "*errors.errorString" := by decide
theorem rowErr (u : TypeId) (h : Tryd.prog.typeName? 3 u = some "*errors.errorString") : u = 140 :=
  typeName_ptr_named (nm := "errors.errorString") (by rw [star]; kernel_rfl) (by kernel_rfl) (by decide) u (by rw [star]; exact h)
theorem laid_of {W : World} (h : laidMetH Tryd.prog Rows.streamSpellsRow.laid W) (hs : W.ShapedOpen Tryd.prog) : Laid W := by
  have h0 : laidMet Tryd.prog Rows.streamSpellsRow.laid W := h
  have h3 : laidMet Tryd.prog [("internal/strconv.uint64pow10", Rows.laid_internal_strconv_uint64pow10), ("strconv.ErrRange", Rows.laid_strconv_ErrRange), ("strconv.ErrSyntax", Rows.laid_strconv_ErrSyntax)] W := h0.tail.tail
  refine ⟨Lib.tabIs_of_head (n := 20) (g := 1) (by kernel_rfl) (by kernel_rfl) Tryd.underlying128 Tryd.underlying22 (by kernel_rfl) (by kernel_rfl) h3, ?_, ?_, Tryd.laysM145.s1_3 W hs⟩
  · obtain ⟨a, _, hv, _⟩ := laid_sentinel (g := 2) h3.tail.tail (by kernel_rfl) (by kernel_rfl) Tryd.underlying84 rowErr Tryd.underlying140 Tryd.underlying142 rfl rfl Tryd.underlying9 (by kernel_rfl) (by kernel_rfl)
    exact ⟨_, _, hv⟩
  · obtain ⟨a, _, hv, _⟩ := laid_sentinel (g := 3) h3.tail (by kernel_rfl) (by kernel_rfl) Tryd.underlying84 rowErr Tryd.underlying140 Tryd.underlying142 rfl rfl Tryd.underlying9 (by kernel_rfl) (by kernel_rfl)
    exact ⟨_, _, hv⟩
/-- So many blocks has the settled world. -/
noncomputable def low : Nat := (World.holding Tryd.prog default ⟨#[], #[], []⟩).heap.size
abbrev synS : ByteArray := { data := #[105, 110, 118, 97, 108, 105, 100, 32, 115, 121, 110, 116, 97, 120] }
abbrev rngS : ByteArray := { data := #[118, 97, 108, 117, 101, 32, 111, 117, 116, 32, 111, 102, 32, 114, 97, 110, 103, 101] }
def lits : List (DataW Unit) → Array Value
  | [] => #[]
  | .lit (.int k n) :: l => #[.int k n] ++ lits l
  | _ :: l => lits l
def table : DataW Unit → Array Value
  | .agg l => lits l
  | _ => #[]
def into (cs : Array Value) : Obj → Obj
  | .cells _ t frozen => .cells cs t frozen
  | o => o
noncomputable def laidWorld (os : Os) : World :=
  let w0 := World.holding Tryd.prog os ⟨#[.cells #[.string synS] 142, .cells #[.string rngS] 142], #[], []⟩
  { w0 with heap := ((((w0.heap.modify 1 (into (table Rows.laid_internal_strconv_uint64pow10))).modify 4 (into (table Rows.laid_math_bits_deBruijn32tab))).modify 5 (into (table Rows.laid_math_bits_deBruijn64tab))).modify 2 (into #[.iface 140 (.pointer (some ⟨low, 0, none⟩))])).modify 3 (into #[.iface 140 (.pointer (some ⟨low + 1, 0, none⟩))]) }
theorem laid_met (os : Os) (args : Array Value) : laidMet Tryd.prog Rows.streamSpellsRow.laid ((laidWorld os).forCall (fun _ _ => 0) ⟨#[], args, []⟩).memory :=
  laidMet_of_run' 8 (by kernel_rfl) (by kernel_rfl)
end Lay
end Go.Proofs.YtbjpfnafhhbmaaaDoor

/- opening a slice of asks that came in. -/
namespace Go.Proofs.YtbjpfnafhhbmaaaDoor
set_option linter.unusedVariables false
set_option linter.unusedSimpArgs false
open Go.RowKit Go.ChangeShapes Go.WideShapes Go.Deep Sad
section
variable {H : Type} {enc : TypeId × Value → H} {w : World} {base : Nat} {spare : Nat → Bool} {held : Bool} {fuel : Nat}
theorem bulk_part {d : DataW H} {l : List (DataW H)} (h : d ∈ l) : Rows.uptoBulk d ≤ Rows.uptoBulkAll l := by
  induction l with
  | nil => cases h
  | cons x r ih =>
    simp only [Rows.uptoBulkAll]
    rcases List.mem_cons.1 h with e | e
    · subst e; omega
    · have := ih e; omega
theorem bulk_one (d : DataW H) : 1 ≤ Rows.uptoBulk d := by
  cases d with
  | lit l => cases l <;> simp [Rows.uptoBulk]
  | nil => simp [Rows.uptoBulk]
  | ptr d => simp [Rows.uptoBulk]
  | slice elems spare => simp [Rows.uptoBulk]
  | agg parts => simp [Rows.uptoBulk]
  | iface t d => simp [Rows.uptoBulk]
  | map entries => simp [Rows.uptoBulk]
  | held h => simp [Rows.uptoBulk]
theorem bulk_len (l : List (DataW H)) : l.length ≤ Rows.uptoBulkAll l := by
  induction l with
  | nil => simp [Rows.uptoBulkAll]
  | cons x r ih => have := bulk_one x; simp only [Rows.uptoBulkAll, List.length_cons]; omega
/-- A slice of pairs. -/
theorem open_pairs {v : Value} {x : DataW H × List MemPlace} (h : DataW.trod enc Tryd.prog w base spare held fuel 37 [v] = some x) :
    ∃ a n c L, v = .slice a n c ∧ PairRow w a n c L ∧ n ≤ Rows.uptoBulk x.1 ∧ ∀ p ∈ L, p.1.size + p.2.size ≤ Rows.uptoBulk x.1 := by
  rcases open_slice_pairs Tryd.underlying37 Tryd.underlying59 (by kernel_rfl) rfl rfl (by kernel_rfl) (by kernel_rfl) h with ⟨hcs, _⟩ | ⟨a, l, c, m, n, V0, V1, D0, D1, P0, P1, hcs, _, hl, hm, hmm, hx, hV⟩
  · simp only [List.cons.injEq, and_true] at hcs
    subst hcs
    exact ⟨none, 0, 0, [], rfl, ⟨rfl, Nat.le_refl _, .inl rfl⟩, Nat.zero_le _, by simp⟩
  · simp only [List.cons.injEq, and_true] at hcs
    subst hcs
    have hle : l ≤ m := by rw [hmm]; split <;> omega
    have each : ∀ i, i < m → ∃ s : ByteArray × ByteArray, (V0 i = .string s.1 ∧ V1 i = .string s.2) ∧ D0 i = .lit (.string s.1.data.toList) ∧ D1 i = .lit (.string s.2.data.toList) := fun i hi => by
      obtain ⟨_, _, g0, g1⟩ := hV i hi
      obtain ⟨s0, e0, d0, _⟩ := DataW.trod_string Tryd.underlying9 g0
      obtain ⟨s1, e1, d1, _⟩ := DataW.trod_string Tryd.underlying9 g1
      simp only [List.cons.injEq, and_true] at e0 e1
      simp only [Prod.mk.injEq] at d0 d1
      exact ⟨(s0, s1), ⟨e0, e1⟩, d0.1, d1.1⟩
    obtain ⟨S, hS⟩ := choose_lt each
    have hb : ∀ i, i < l → (S i).1.size + (S i).2.size ≤ Rows.uptoBulk x.1 := fun i hi => by
      rw [hx]
      have h1 : (DataW.agg [D0 i, D1 i] : DataW H) ∈ (List.range l).map fun i => DataW.agg [D0 i, D1 i] := List.mem_map.2 ⟨i, List.mem_range.2 hi, rfl⟩
      have h2 := bulk_part h1
      simp only [Rows.uptoBulk]
      simp only [Rows.uptoBulk, Rows.uptoBulkAll, (hS i (by omega)).2.1, (hS i (by omega)).2.2] at h2
      have e0 : (S i).1.data.toList.length = (S i).1.size := by rw [Array.length_toList]; rfl
      have e1 : (S i).2.data.toList.length = (S i).2.size := by rw [Array.length_toList]; rfl
      omega
    refine ⟨_, _, _, (List.range l).map S, rfl, ⟨by simp, hl, ?_⟩, ?_, fun p hp => ?_⟩
    · rcases Nat.eq_zero_or_pos l with h0 | h0
      · exact .inl h0
      · have hsp : ∃ b o, a = ⟨b, o, none⟩ := by
          obtain ⟨_, b, o, hx, _⟩ := argRow_of (w := w) (x := a) (len := 1) (cap := 1) (f := fun _ => V0 0) (Nat.le_refl _) (fun i hi => by
            have : i = 0 := by omega
            subst this
            simpa using (hV 0 (by omega)).1) |>.imp id (fun h => h.resolve_left (by omega))
          exact ⟨b, o, Option.some.inj hx⟩
        obtain ⟨b, o, rfl⟩ := hsp
        refine .inr ⟨b, o, rfl, fun i hi => ?_⟩
        obtain ⟨g0, g1, _⟩ := hV i (by omega)
        rw [add_plain] at g0 g1
        have hSi := (hS i (by omega)).1
        rw [g0, show o + i * 2 + 1 = o + (i * 2 + 1) by omega, g1, hSi.1, hSi.2]
        simp [List.getD, hi]
    · rw [hx]
      simp only [Rows.uptoBulk]
      have := bulk_len (H := H) ((List.range l).map fun i => DataW.agg [D0 i, D1 i])
      rw [List.length_map, List.length_range] at this
      omega
    · obtain ⟨i, hi, rfl⟩ := List.mem_map.1 hp
      exact hb i (List.mem_range.1 hi)
theorem open_u64 {cs : List Value} {x : DataW H × List MemPlace} (h : DataW.trod enc Tryd.prog w base spare held fuel 22 cs = some x) : ∃ n : Nat, cs = [.int .u64 n] ∧ n < 18446744073709551616 := by
  obtain ⟨n, rfl, _, hw⟩ := DataW.trod_int Tryd.underlying22 h
  have hx : 0 ≤ n ∧ n ≤ 18446744073709551615 := by simpa [Lit.wf, IntKind.min, IntKind.max, IntKind.signed, IntKind.bits] using hw
  exact ⟨n.toNat, by rw [show ((n.toNat : Nat) : Int) = n by omega], by omega⟩
theorem cells_split {cs : List Value} {k : Nat} (h : cs.length = k) {v : Value} {rest : List Value} (h1 : cs.take 1 = [v]) (h2 : cs.drop 1 = rest) : cs = v :: rest := by
  rw [← List.take_append_drop 1 cs, h1, h2]; rfl
theorem len2 {α : Type} {l : List α} (h : l.length = 2) : ∃ a b, l = [a, b] := by
  match l, h with
  | [a, b], _ => exact ⟨a, b, rfl⟩
theorem len4 {α : Type} {l : List α} (h : l.length = 4) : ∃ a b c d, l = [a, b, c, d] := by
  match l, h with
  | [a, b, c, d], _ => exact ⟨a, b, c, d, rfl⟩
theorem len7 {α : Type} {l : List α} (h : l.length = 7) : ∃ a b c d e f g, l = [a, b, c, d, e, f, g] := by
  match l, h with
  | [a, b, c, d, e, f, g], _ => exact ⟨a, b, c, d, e, f, g, rfl⟩
/-- An identifier. -/
theorem open_id {cs : List Value} {x : DataW H × List MemPlace} (h : DataW.trod enc Tryd.prog w base spare held fuel 24 cs = some x) : ∃ m q : Nat, cs = [.int .u64 m, .int .u64 q] ∧ m < 18446744073709551616 ∧ q < 18446744073709551616 := by
  obtain ⟨y0, y1, n, _, hl, h0, h1⟩ := trod_struct2 Tryd.underlying24 h
  have hC : Tryd.prog.cellsOf 24 = 2 := by kernel_rfl
  have hC1 : Tryd.prog.cellsOf 22 = 1 := by kernel_rfl
  rw [hC] at hl
  obtain ⟨a, b, rfl⟩ := len2 hl
  obtain ⟨m, e0, hm⟩ := open_u64 h0
  obtain ⟨q, e1, hq⟩ := open_u64 h1
  dsimp only at e0 e1
  rw [hC1] at e0 e1
  simp only [List.drop_zero, List.take_succ_cons, List.take_zero, List.drop_succ_cons, List.cons.injEq, and_true] at e0 e1
  exact ⟨m, q, by rw [e0, e1], hm, hq⟩
/-- An ask. -/
theorem open_ask {cs : List Value} {x : DataW H × List MemPlace} (h : DataW.trod enc Tryd.prog w base spare held fuel 48 cs = some x) (hb : Rows.uptoBulk x.1 ≤ 1048576) :
    ∃ A : AskN, cs = [.int .u8 A.k, .int .u64 A.id.1, .int .u64 A.id.2, .slice A.a A.n A.c, .int .u64 A.to.1, .int .u64 A.to.2, .int .i64 A.N] ∧ PairRow w A.a A.n A.c A.L ∧ A.n ≤ 1048576 ∧ (∀ p ∈ A.L, p.1.size + p.2.size ≤ 1048576) ∧ (0 ≤ A.k ∧ A.k ≤ 255) ∧ (A.id.1 < 18446744073709551616 ∧ A.id.2 < 18446744073709551616) ∧ (A.to.1 < 18446744073709551616 ∧ A.to.2 < 18446744073709551616) ∧ (-9223372036854775808 ≤ A.N ∧ A.N ≤ 9223372036854775807) := by
  obtain ⟨xs, n, _, hx, hl, hlen, hf⟩ := DataW.trod_struct Tryd.underlying48 h
  have hC : Tryd.prog.cellsOf 48 = 7 := by kernel_rfl
  have hCe : Tryd.prog.cellsOf 39 = 3 := by kernel_rfl
  have hCi : Tryd.prog.cellsOf 24 = 2 := by kernel_rfl
  have hCk : Tryd.prog.cellsOf 46 = 1 := by kernel_rfl
  have hCn : Tryd.prog.cellsOf 3 = 1 := by kernel_rfl
  have hCp : Tryd.prog.cellsOf 37 = 1 := by kernel_rfl
  rw [hC] at hl
  obtain ⟨c0, c1, c2, c3, c4, c5, c6, rfl⟩ := len7 hl
  obtain ⟨y0, y1, y2, y3, rfl⟩ := len4 hlen
  have g0 : DataW.trod enc Tryd.prog w base spare held n 46 (([c0, c1, c2, c3, c4, c5, c6].drop 0).take (Tryd.prog.cellsOf 46)) = some y0 := hf 0 _ rfl
  have g1 : DataW.trod enc Tryd.prog w base spare held n 39 (([c0, c1, c2, c3, c4, c5, c6].drop 1).take (Tryd.prog.cellsOf 39)) = some y1 := hf 1 _ rfl
  have g2 : DataW.trod enc Tryd.prog w base spare held n 24 (([c0, c1, c2, c3, c4, c5, c6].drop 4).take (Tryd.prog.cellsOf 24)) = some y2 := hf 2 _ rfl
  have g3 : DataW.trod enc Tryd.prog w base spare held n 3 (([c0, c1, c2, c3, c4, c5, c6].drop 6).take (Tryd.prog.cellsOf 3)) = some y3 := hf 3 _ rfl
  rw [hCk] at g0
  rw [hCe] at g1
  rw [hCi] at g2
  rw [hCn] at g3
  simp only [List.drop_zero, List.take_succ_cons, List.take_zero, List.drop_succ_cons, List.getElem?_cons_zero, List.getElem?_cons_succ] at g0 g1 g2 g3
  obtain ⟨k, e0, _, hk⟩ := DataW.trod_int Tryd.underlying46 g0
  obtain ⟨tm, tq, e2, htm, htq⟩ := open_id g2
  obtain ⟨N, e3, _, hN⟩ := DataW.trod_int Tryd.underlying3 g3
  obtain ⟨z0, z1, n', hy1, hl1, h0', h1'⟩ := trod_struct2 Tryd.underlying39 g1
  have h0 : DataW.trod enc Tryd.prog w base spare held n' 24 (([c1, c2, c3].drop 0).take (Tryd.prog.cellsOf 24)) = some z0 := h0'
  have h1 : DataW.trod enc Tryd.prog w base spare held n' 37 (([c1, c2, c3].drop 2).take (Tryd.prog.cellsOf 37)) = some z1 := h1'
  rw [hCi] at h0
  rw [hCp] at h1
  simp only [List.drop_zero, List.take_succ_cons, List.take_zero, List.drop_succ_cons] at h0 h1
  obtain ⟨m, q, e1, hm, hq⟩ := open_id h0
  obtain ⟨a, pn, pc, L, ep, hrow, hpn, hpl⟩ := open_pairs h1
  simp only [List.cons.injEq, and_true] at e0 e1 e2 e3
  have hbz : Rows.uptoBulk z1.1 ≤ 1048576 := by
    rw [hx] at hb
    simp only [List.map_cons, List.map_nil, Rows.uptoBulk, Rows.uptoBulkAll] at hb
    have : Rows.uptoBulk y1.1 = Rows.uptoBulkAll [z0.1, z1.1] + 1 := by rw [hy1]; simp only [Rows.uptoBulk]
    simp only [Rows.uptoBulkAll] at this
    omega
  have hk' : 0 ≤ k ∧ k ≤ 255 := by simpa [Lit.wf, IntKind.min, IntKind.max, IntKind.signed, IntKind.bits] using hk
  have hN' : -9223372036854775808 ≤ N ∧ N ≤ 9223372036854775807 := by simpa [Lit.wf, IntKind.min, IntKind.max, IntKind.signed, IntKind.bits] using hN
  refine ⟨⟨k, (m, q), a, pn, pc, L, (tm, tq), N⟩, by rw [e0, e1.1, e1.2, e2.1, e2.2, e3, ep], hrow, by dsimp only; omega, fun p hp => Nat.le_trans (hpl p hp) hbz, hk', ⟨hm, hq⟩, ⟨htm, htq⟩, hN'⟩
/-- A slice of asks that came in. -/
theorem asks_arg {a : Option Addr} {len cap : Nat} {d : DataW H} {ps : List MemPlace} (h : DataW.Trod enc Tryd.prog w base spare held 31 (.slice a len cap) d ps) (hb : Rows.uptoBulk d ≤ 1048576) :
    ∃ Q : List AskN, AskRow w a len cap Q ∧ len ≤ 1048576 ∧ ∀ A ∈ Q, ∀ p ∈ A.L, p.1.size + p.2.size ≤ 1048576 := by
  obtain ⟨fuel, hf⟩ := h
  have hC : Tryd.prog.cellsOf 48 = 7 := by kernel_rfl
  rcases open_slice Tryd.underlying31 hf with ⟨hcs, _⟩ | ⟨x, l, c, m, n, D, Pl, hcs, _, hl, hm, hmm, hd, hi⟩
  · simp [Value.cells] at hcs
    obtain ⟨rfl, rfl, rfl⟩ := hcs
    exact ⟨[], ⟨rfl, Nat.le_refl _, .inl rfl⟩, Nat.zero_le _, by simp⟩
  · simp [Value.cells] at hcs
    obtain ⟨rfl, rfl, rfl⟩ := hcs
    have hd1 : d = .slice ((List.range len).map D) ((List.range (m - len)).map fun j => D (len + j)) := (Prod.mk.inj hd).1
    rw [hd1] at hb
    simp only [Rows.uptoBulk] at hb
    have hle : len ≤ m := by rw [hmm]; split <;> omega
    have hlen := bulk_len (H := H) ((List.range len).map D)
    rw [List.length_map, List.length_range] at hlen
    have each : ∀ i, i < len → ∃ A : AskN, (∀ j, j < 7 → w.cell? ((x.add (i * 7)).add j) = [.int .u8 A.k, .int .u64 A.id.1, .int .u64 A.id.2, .slice A.a A.n A.c, .int .u64 A.to.1, .int .u64 A.to.2, .int .i64 A.N][j]?) ∧ PairRow w A.a A.n A.c A.L ∧ A.n ≤ 1048576 ∧ (∀ p ∈ A.L, p.1.size + p.2.size ≤ 1048576) ∧ (0 ≤ A.k ∧ A.k ≤ 255) ∧ (A.id.1 < 18446744073709551616 ∧ A.id.2 < 18446744073709551616) ∧ (A.to.1 < 18446744073709551616 ∧ A.to.2 < 18446744073709551616) ∧ (-9223372036854775808 ≤ A.N ∧ A.N ≤ 9223372036854775807) := fun i hii => by
      obtain ⟨cs', h1, h2⟩ := hi i (by omega)
      rw [hC] at h1
      obtain ⟨_, _, h3⟩ := World.cells?_some h1
      obtain ⟨A, rfl, hA⟩ := open_ask h2 (by
        have h4 : D i ∈ (List.range len).map D := List.mem_map.2 ⟨i, List.mem_range.2 hii, rfl⟩
        have := bulk_part h4
        show Rows.uptoBulk (D i) ≤ _
        omega)
      exact ⟨A, h3, hA⟩
    haveI : Inhabited AskN := ⟨⟨0, (0, 0), none, 0, 0, [], (0, 0), 0⟩⟩
    obtain ⟨A, hA⟩ := choose_lt each
    refine ⟨(List.range len).map A, ⟨by simp, hl, ?_⟩, by omega, fun B hB => ?_⟩
    · rcases Nat.eq_zero_or_pos len with h0 | h0
      · exact .inl h0
      · have hsp : ∃ b o, x = ⟨b, o, none⟩ := by
          obtain ⟨_, b, o, hx, _⟩ := argRow_of (w := w) (x := x) (len := 1) (cap := 1) (f := fun _ => .int .u8 (A 0).k) (Nat.le_refl _) (fun i hi => by
            have : i = 0 := by omega
            subst this
            have := (hA 0 h0).1 0 (by omega)
            rw [Go.Deep.add_add] at this
            simpa using this) |>.imp id (fun h => h.resolve_left (by omega))
          exact ⟨b, o, Option.some.inj hx⟩
        obtain ⟨b, o, rfl⟩ := hsp
        refine .inr ⟨b, o, rfl, fun i hi => ?_⟩
        have hi' : i < len := by simpa using hi
        obtain ⟨hc, hr, hn, _, hk, hid, hto, hN⟩ := hA i hi'
        have g : ∀ j, j < 7 → w.cell? ⟨b, o + i * 7 + j, none⟩ = [.int .u8 (A i).k, .int .u64 (A i).id.1, .int .u64 (A i).id.2, .slice (A i).a (A i).n (A i).c, .int .u64 (A i).to.1, .int .u64 (A i).to.2, .int .i64 (A i).N][j]? := fun j hj => by
          have := hc j hj
          rw [add_plain, add_plain] at this
          exact this
        simp only [List.getElem_map, List.getElem_range]
        exact ⟨g 0 (by omega), g 1 (by omega), g 2 (by omega), g 3 (by omega), g 4 (by omega), g 5 (by omega), g 6 (by omega), hr, by omega, hk, hid, hto, hN⟩
    · obtain ⟨i, hi, rfl⟩ := List.mem_map.1 hB
      exact (hA i (List.mem_range.1 hi)).2.2.2.1
end
end Go.Proofs.YtbjpfnafhhbmaaaDoor

/- The row of the law StreamNone, and its card: for every input of at most 1048576 values and letters the Go function returns true and its arguments read as before, out of the walk streamNone_walk. The library's variables that the row lists hold what the program's text lays (the card's tie, given). -/
namespace Go.Proofs.YtbjpfnafhhbmaaaDoor.streamNoneRow
open Go.ChangeShapes Go.WideShapes Go.ChangeAt Go.RowKit
open Go.ChangeMaps (open_string shut_string)
set_option linter.unusedVariables false
set_option linter.unusedSimpArgs false
theorem own : ownKnob Tryd.prog.godebug = none := by kernel_rfl
theorem laidOut : laidOutB Tryd.prog = true := by kernel_rfl
theorem bulk {H : Type} {l : List (DataW H)} (hk : Rows.uptoSmall H l = true) : Rows.uptoBulkAll l ≤ 1048576 := of_decide_eq_true hk
theorem reads (os : Os) {H : Type} (enc : TypeId × Value → H) : ∃ places, DataW.whole enc Tryd.prog ((Lay.laidWorld os).forCall (fun _ _ => 0) ⟨#[], #[.slice none 0 0], []⟩).memory Tryd.f7.params.toList Rows.streamNoneSpec.vars false (#[.slice none 0 0] : Array Value).toList 8 = some ([.nil], [], places) :=
  ⟨[], by kernel_rfl⟩
set_option maxRecDepth 100000 in
theorem contract (H : Type) (enc : TypeId × Value → H) (W : World) (base : Nat) (args : Array Value) (ds gs : List (DataW H)) (before : List MemPlace)
    (hval0 : ∀ (j : Nat) t v, Tryd.f7.params[j]? = some t → args[j]? = some v → Value.okWide Tryd.prog W .any base t v)
    (hW : DataW.Whole enc Tryd.prog Tryd.f7.params.toList Rows.streamNoneSpec.vars false W args.toList ds gs before) (hk0 : Rows.uptoSmall H (ds ++ gs) = true)
    (hsz0 : (DataW.weightsEach Tryd.prog (Tryd.f7.params.toList ++ Rows.streamNoneSpec.plain.varTypes Tryd.prog) (ds ++ gs)).all (· ≤ reachBytes) = true) (hL : Laid W) :
    Calls Tryd.prog 7 args W fun e W' => ∃ v, e = .returned v ∧ Rows.streamNoneSpec.post enc Tryd.prog Tryd.f7 false true false false W args v W' := by
  have hsz := hsz0
  have hk := bulk hk0
  have hval : ∀ (j : Nat) t v, Tryd.f7.params[j]? = some t → args[j]? = some v → Value.okWide Tryd.prog W .any base t v := hval0
  have hW' := hW
  obtain ⟨p, q, hA0, hV, rfl, hfz, hnd⟩ := hW
  have hA : DataW.TrodAll enc Tryd.prog W 0 (fun _ => true) true Tryd.f7.params.toList args.toList ds p := hA0
  rw [Tryd.params7] at hA hval hsz
  obtain ⟨v0, vs0, d0, ds0, p0, q0, hargs, rfl, rfl, h0, r0⟩ := trodAll_cons hA
  obtain ⟨rfl, rfl, rfl⟩ := trodAll_nil r0
  obtain rfl : args = #[v0] := by cases args; simp_all
  obtain ⟨rfl, rfl⟩ := trodVars_none hV
  have k0 := h0
  have lt0 : ∀ x ∈ p0, x.block < W.heap.size := by obtain ⟨m, hm⟩ := k0; exact DataW.trod_lt m _ _ _ hm
  obtain ⟨a0, len0, cap0, rfl⟩ := okWide_slice Tryd.underlying31 (hval 0 31 v0 rfl rfl)
  have b0 : Rows.uptoBulk d0 ≤ 1048576 := by
    have := hk
    simp only [List.cons_append, List.nil_append, List.append_nil, Rows.uptoBulkAll] at this
    omega
  obtain ⟨z0, w0, l0, y0⟩ := asks_arg h0 b0
  simp only [List.cons_append, List.nil_append, List.append_nil, Rows.uptoBulkAll, Rows.uptoBulk] at hk
  clear hA0 hval0 hsz0 hsz
  refine (streamNone_walk hL a0 len0 cap0 z0 w0 l0 y0).mono fun e W' ⟨he, bel⟩ => ?_
  subst he
  exact ⟨_, rfl, _, _, _, [], _, [], hW', trodAll_mk1 (shut_bool Tryd.underlying4 _), (trodAll_cons_mk (Below.trod laidOut (by kernel_rfl) (of_decide_eq_true (by kernel_rfl)) k0 bel lt0) trodAll_mk0), rfl, bel.frame _, fun h => by cases h⟩
set_option maxRecDepth 100000 in
theorem liftedUpto (os : Os) (started : os.Started) (H : Type) (enc : TypeId × Value → H) (F : Stop.Interp) :
    ReturnsInHanded {} Tryd.checked os 7 .any ((Rows.OpenSpec.upto Rows.streamNoneSpec).preRow enc Tryd.prog Tryd.f7 Rows.streamNoneUptoRow.domain false Rows.streamNoneUptoRow.laid) (((Rows.OpenSpec.upto Rows.streamNoneSpec).at F).post enc Tryd.prog Tryd.f7 false true false false) := by
  obtain ⟨places, hx⟩ := reads os enc
  refine returnsInHanded_of_row (C := Tryd.checked) (s := (Rows.OpenSpec.upto Rows.streamNoneSpec)) own started (by kernel_rfl) Tryd.func7
    (witness_row_at (enc := enc) (C := Tryd.checked) false (Lay.laidWorld os) #[.slice none 0 0] rfl (by kernel_rfl) (by kernel_rfl) (by kernel_rfl)
      (OpenSpec.preRow_of_cond 8 hx (by kernel_rfl) (fun k hk => by cases hk; kernel_rfl) (by kernel_rfl) (Lay.laid_met os _))) ?_
  intro W base args ds gs before hval hW _ hcond hsz hL hS _
  exact contract H enc W base args ds gs before hval hW (hcond _ rfl) hsz (Lay.laid_of hL hS)
theorem saidUpto : Rows.StreamNoneUptoSaid :=
  OpenClaim.holds_of_cond 7 Tryd.f7 rfl rfl rfl rfl rfl rfl rfl ⟨rfl, rfl, rfl, rfl, rfl⟩ rfl rfl rfl rfl rfl (by kernel_rfl) Tryd.func7 (by kernel_rfl)
    (of_decide_eq_true (by kernel_rfl)) (by unfold Func.isWrapper; first | (rw [if_pos (by decide +kernel)]; kernel_rfl) | (rw [if_neg (by decide +kernel)]; exact ⟨rfl, rfl⟩))
    (fun os started H enc _ F => by rw [OpenClaim.pre_eq_preRow]; exact liftedUpto os started H enc F)
theorem plain (f : FuncId) (fn : Func) (hf : Tryd.pinned.checked.prog.funcNamed "stillroom/stillroomlaw16.StreamNone" = some f) (hfn : Tryd.pinned.checked.prog.funcs[f]? = some fn) :
    true = Tryd.pinned.checked.prog.looks [] ∧ ∀ (j : Nat) t, fn.params[j]? = some t → Tryd.pinned.checked.prog.wantsStandIn t = false := by
  obtain rfl : f = 7 := Option.some.inj ((show Tryd.prog.funcNamed "stillroom/stillroomlaw16.StreamNone" = some 7 by kernel_rfl).symm.trans hf) |>.symm
  obtain rfl : fn = Tryd.f7 := (Option.some.inj (Tryd.func7.symm.trans hfn)).symm
  refine ⟨by kernel_rfl, fun j t ht => ?_⟩
  rw [Tryd.params7] at ht
  have ht := Array.mem_of_getElem? ht
  have all : ∀ t ∈ (#[31] : Array TypeId), Tryd.prog.wantsStandIn t = false := by
    intro t ht
    simp only [List.mem_toArray, List.mem_cons, List.not_mem_nil, or_false] at ht
    subst ht; kernel_rfl
  exact all t ht
end Go.Proofs.YtbjpfnafhhbmaaaDoor.streamNoneRow
namespace Go.Proofs.YtbjpfnafhhbmaaaDoor
open Go.Proofs.YtbjpfnafhhbmaaaDoor.streamNoneRow in
/-- The law's card. -/
theorem streamNone_holds : Rows.StreamNoneUptoCardSaid :=
  Claim7.holds_tied_plain_at .later [] _ _ _ _ saidUpto (fun _ h => by cases h) (by kernel_rfl) (fun _ h => by cases h) streamNoneUpto_row_tie rfl ⟨rfl, rfl⟩ (by kernel_rfl) rfl plain (by kernel_rfl)
end Go.Proofs.YtbjpfnafhhbmaaaDoor
