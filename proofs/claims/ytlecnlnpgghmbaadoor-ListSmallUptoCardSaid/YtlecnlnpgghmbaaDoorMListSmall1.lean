/- The row of the law ListSmall, and its card: for every input of at most 1048576 values and letters the Go function returns true and its arguments read as before, out of the walk listSmall_walk. The library's variables that the row lists hold what the program's text lays (the card's tie, given). -/
import Derived.Test.YtlecnlnpgghmbaaDoorMQ3
import Derived.Test.YtlecnlnpgghmbaaDoorRows
import Derived.Test.YtlecnlnpgghmbaaDoorMQ1
import Derived.Stop.LaidErr
import Derived.Lib.LaidTab
import Derived.LaidLaws
import Derived.Test.YtlecnlnpgghmbaaDoorCards
import Derived.Test.YtlecnlnpgghmbaaDoorTie
import Derived.WalkKit
import Derived.ProofKit
import Derived.OpenShut
import Derived.ShutString
import Derived.ChangeOld
import Derived.Below
import Derived.SizedLaws
import Derived.Laws.Cover2
import Derived.Lib.SmallJoins
import Derived.Deep.Slices
import Derived.Deep.SlicePairs
import Derived.SliceStrings
import Derived.JoinedCond
import Derived.Deep.DeepHandedRow
/- The law ListTrims: the walk. -/
namespace Go.Proofs.YtlecnlnpgghmbaaDoor
set_option linter.unusedVariables false
set_option linter.unusedSimpArgs false
open Go.RowKit
theorem i64_wf {x : Int} (h : (Lit.int .i64 x).wf = true) : -9223372036854775808 ≤ x ∧ x ≤ 9223372036854775807 := by
  simpa [Lit.wf, IntKind.min, IntKind.max, IntKind.signed, IntKind.bits] using h
theorem fitsT_all {zs : List ByteArray} (h : fitsT zs = true) : ∀ s ∈ zs, s.size ≤ 65536 := of_decide_eq_true h
theorem ListF.small {w : World} {l : Nat} {F : Nat → Prop} {L : List ByteArray} {sm : Bool} (h : ListF w l F L sm) : Calls Tryd.prog 14 #[pv l] w fun e w' => e = .returned (.bool sm) ∧ Below w.heap.size w w' := by
  obtain ⟨v, Fr, h⟩ := h
  exact smallL h
theorem ListF.len {w : World} {l : Nat} {F : Nat → Prop} {L : List ByteArray} {sm : Bool} (h : ListF w l F L sm) : Calls Tryd.prog 12 #[pv l] w fun e w' => e = .returned (.int .i64 L.length) ∧ w = w' := by
  obtain ⟨v, Fr, h⟩ := h
  exact lenL h
theorem rngL_le (L : List ByteArray) (a b : Int) : (rngL L a b).length ≤ L.length := rangeT_length L _ _
theorem ArgRow.chgT {w w' : World} {a : Option Addr} {n c : Nat} {f : Nat → Value} {S : Nat → Prop} (h : ArgRow w a n c f) (hc : Chg S w w') (hn : ∀ k, (∃ b o, a = some ⟨b, o, none⟩ ∧ k = b) → ¬ S k) : ArgRow w' a n c f := by
  refine ⟨h.1, h.2.imp id ?_⟩
  rintro ⟨b, o, e, hf⟩
  refine ⟨b, o, e, fun i hi => ?_⟩
  have h1 := hf i hi
  have hlt : b < w.heap.size := World.block_lt_of_cell? w _ h1
  have := hc.block b hlt (hn b ⟨b, o, e, rfl⟩)
  rw [← h1]
  simp only [World.cell?, this]
set_option maxHeartbeats 6400000 in
set_option maxRecDepth 100000 in
theorem listTrims_all {w : World} (hl : Laid w) (a : Option Addr) (n ca : Nat) (zs : List ByteArray) (f t : Int) (ha : zs.length = n ∧ ArgRow w a n ca fun i => .string (zs.getD i ByteArray.empty)) (ta : totalT zs ≤ 1048576)
    (hf : -9223372036854775808 ≤ f ∧ f ≤ 9223372036854775807) (ht : -9223372036854775808 ≤ t ∧ t ≤ 9223372036854775807) :
    Calls Tryd.prog 6 #[.slice a n ca, .int .i64 f, .int .i64 t] w fun e w' => e = .returned (.bool true) ∧ Below w.heap.size w w' := by
  have HAl := Lib.hid (fun w' (hb : Below w.heap.size w w') => alive12_any (hl.below hb))
  have HA := Lib.hid (fun w' (hbe : Below w.heap.size w w') => show ArgRow w' a n ca fun i => .string (zs.getD i ByteArray.empty) from ha.2.belowT hbe)
  have HLd := Lib.hid (fun w' (hbe : Below w.heap.size w w') => hl.below hbe)
  have HL := Lib.hid hl
  have hac := ha.2.1
  have HLn := Lib.hid ha.1
  have HTot := Lib.hid ta
  clear ta hl ha
  cases hm : (fitsT zs && decide (n ≤ 400)) with
  | false =>
    have HM := Lib.hid (fun w' (hb : Below w.heap.size w w') => may12_any w' a n ca zs HLn.out (HA.out w' hb) HTot.out)
    rw [hm] at HM
    clear hm
    go_enter Tryd.func6, Tryd.ntmps6
    go_wp2_with fail
    refine (HAl.out _ (Below.refl _ _)).mono ?_
    rintro e w1 ⟨rfl, b1⟩
    have B1 := Lib.hid b1
    clear b1
    go_wp2_with fail
    refine (HM.out _ B1.out).mono ?_
    rintro e w2 ⟨rfl, b2⟩
    have B2 := Lib.hid (B1.out.trans (b2.mono B1.out.size))
    clear b2
    go_wp2_with fail
    refine (HAl.out _ B2.out).mono ?_
    rintro e w3 ⟨rfl, b3⟩
    have B3 := Lib.hid (B2.out.trans (b3.mono B2.out.size))
    clear b3
    go_wp2_with fail
    go_ret
    exact ⟨rfl, B3.out⟩
  | true =>
    have HM := Lib.hid (fun w' (hb : Below w.heap.size w w') => may12_any w' a n ca zs HLn.out (HA.out w' hb) HTot.out)
    rw [hm] at HM
    simp only [Bool.and_eq_true, decide_eq_true_eq] at hm
    have hn4 : n ≤ 400 := hm.2
    have HZ := Lib.hid (fitsT_all hm.1)
    clear hm
    go_enter Tryd.func6, Tryd.ntmps6
    go_wp2_with fail
    refine (HAl.out _ (Below.refl _ _)).mono ?_
    rintro e w1 ⟨rfl, b1⟩
    have B1 := Lib.hid b1
    clear b1
    go_wp2_with fail
    refine (HM.out _ B1.out).mono ?_
    rintro e w2 ⟨rfl, b2⟩
    have B2 := Lib.hid (B1.out.trans (b2.mono B1.out.size))
    have HO := Lib.hid (ofL (HLd.out _ B2.out) a n ca zs HLn.out (HA.out _ B2.out) HZ.out (by omega))
    clear b2
    go_wp2_with fail
    refine HO.out.mono ?_
    rintro e w3 ⟨⟨l, F, rfl, q3, k3⟩, b3⟩
    have hb3 : Below w.heap.size w w3 := B2.out.trans (b3.mono B2.out.size)
    have HK := Lib.hid (show ∀ k, F k → w.heap.size ≤ k from fun k hk => Nat.le_trans B2.out.size (k3 k hk))
    have HR3 := Lib.hid (rangeL (HLd.out _ hb3) q3 0 (-1) (by omega) (by omega))
    rw [rngL_all] at HR3
    have HQ3 := Lib.hid (And.intro q3 hb3)
    clear q3 k3 b3 hb3 HO
    go_wp2_with fail
    refine HR3.out.mono ?_
    rintro e w4 ⟨⟨v4, rfl, s4⟩, b4⟩
    obtain ⟨a4, c4, rfl, har4⟩ := texts_of_slice s4
    have hb4 : Below w.heap.size w w4 := HQ3.out.2.trans (b4.mono HQ3.out.2.size)
    have HS4 := Lib.hid (sameTexts_any w4 a4 a zs.length n c4 ca zs zs rfl HLn.out har4 (HA.out _ hb4) (by have := HLn.out; omega))
    rw [decide_eq_true rfl] at HS4
    have HQ4 := Lib.hid (And.intro (HQ3.out.1.below b4) hb4)
    clear s4 har4 b4 hb4 HR3
    go_wp2_with fail
    refine HS4.out.mono ?_
    rintro e w5 ⟨rfl, d5, hw5⟩
    have hd5 : Below w4.heap.size w4 w5 := by rw [hw5]; exact belowN (Below.refl _ _) _
    have hb5 : Below w.heap.size w w5 := HQ4.out.2.trans (hd5.mono HQ4.out.2.size)
    have q5 := HQ4.out.1.below hd5
    have HR5 := Lib.hid (rangeL (HLd.out _ hb5) q5 f t hf ht)
    have HQ5 := Lib.hid (And.intro q5 hb5)
    clear hw5 hd5 hb5 q5 HS4
    go_wp2_with fail
    refine HR5.out.mono ?_
    rintro e w6 ⟨⟨v6, rfl, s6⟩, b6⟩
    obtain ⟨a6, c6, rfl, har6⟩ := texts_of_slice s6
    have hvb : ∀ k, (∃ b o, a6 = some ⟨b, o, none⟩ ∧ k = b) → ¬ F k := by
      rintro k ⟨b, o, e, rfl⟩ hk
      subst e
      have h1 := (s6.block_lt (k := k) rfl).1
      have h2 := HQ5.out.1.lt hk
      omega
    have hb6 : Below w.heap.size w w6 := HQ5.out.2.trans (b6.mono HQ5.out.2.size)
    have q6 := HQ5.out.1.below b6
    have HS6 := Lib.hid q6.small
    have HQ6 := Lib.hid (And.intro q6 (And.intro hb6 (And.intro har6 hvb)))
    clear s6 har6 b6 hvb hb6 q6 HR5
    go_wp2_with fail
    refine HS6.out.mono ?_
    rintro e w7 ⟨rfl, b7⟩
    have hb7 : Below w.heap.size w w7 := HQ6.out.2.1.trans (b7.mono HQ6.out.2.1.size)
    have q7 := HQ6.out.1.below b7
    have HT7 := Lib.hid (trimL HL.out hb7 hb7.size q7 HK.out f t hf ht)
    have HQ7 := Lib.hid (And.intro q7 (And.intro hb7 (HQ6.out.2.2.1.belowT b7)))
    clear b7 hb7 q7 HS6
    go_wp2_with fail
    refine HT7.out.mono ?_
    rintro e w8 ⟨⟨vv, rfl⟩, ⟨F8, q8, f8⟩, c8⟩
    have hb8 : Below w.heap.size w w8 := belowChg HQ7.out.2.1 c8 HQ7.out.2.1.size fun k hk _ => HK.out k hk
    have har8 := HQ7.out.2.2.chgT c8 HQ6.out.2.2.2
    have HR8 := Lib.hid (rangeL (HLd.out _ hb8) q8 0 (-1) (by omega) (by omega))
    rw [rngL_all] at HR8
    have HQ8 := Lib.hid (And.intro q8 (And.intro hb8 har8))
    clear q8 f8 c8 hb8 har8 HT7
    have hrl := rngL_le zs f t
    have HLz := Lib.hid HLn.out
    rw [HLn.out] at hrl
    obtain ⟨R, hR⟩ : ∃ R, R = rngL zs f t := ⟨_, rfl⟩
    rw [← hR] at HR8 HQ8 hrl ⊢
    obtain ⟨m, hm⟩ : ∃ m, m = R.length := ⟨_, rfl⟩
    rw [← hm] at HR8 HQ8 hrl ⊢
    have HRm := Lib.hid hm
    clear hR hm
    go_wp2_with fail
    refine HR8.out.mono ?_
    rintro e w9 ⟨⟨v9, rfl, s9⟩, b9⟩
    rw [HRm.out] at s9
    obtain ⟨a9, c9, rfl, har9⟩ := texts_of_slice s9
    rw [← HRm.out] at har9
    have hb9 : Below w.heap.size w w9 := HQ8.out.2.1.trans (b9.mono HQ8.out.2.1.size)
    have HS9 := Lib.hid (sameTexts_any w9 a9 a6 m m c9 c6 R R HRm.out.symm HRm.out.symm har9 (HQ8.out.2.2.belowT b9) (by omega))
    rw [decide_eq_true rfl] at HS9
    have HQ9 := Lib.hid (And.intro (HQ8.out.1.below b9) hb9)
    rw [← HRm.out]
    clear s9 har9 b9 hb9 HR8
    go_wp2_with fail
    refine HS9.out.mono ?_
    rintro e w10 ⟨rfl, d10, hw10⟩
    have hd10 : Below w9.heap.size w9 w10 := by rw [hw10]; exact belowN (Below.refl _ _) _
    have q10 := HQ9.out.1.below hd10
    have HL10 := Lib.hid q10.len
    rw [← HRm.out] at HL10
    have HS10 := Lib.hid q10.small
    have HB10 := Lib.hid (HQ9.out.2.trans (hd10.mono HQ9.out.2.size))
    clear hw10 hd10 q10 HS9
    go_wp2_with fail
    refine HL10.out.mono ?_
    rintro e w' ⟨rfl, rfl⟩
    go_wp2_with fail
    refine HS10.out.mono ?_
    rintro e w11 ⟨rfl, b11⟩
    have HB11 := Lib.hid (HB10.out.trans (b11.mono HB10.out.size))
    clear b11
    go_wp2_with fail
    go_ret
    exact ⟨rfl, HB11.out⟩
theorem listTrims_walk {w : World} (hl : Laid w) (a : Option Addr) (n ca : Nat) (zs : List ByteArray) (f t : Int) (ha : zs.length = n ∧ ArgRow w a n ca fun i => .string (zs.getD i ByteArray.empty)) (ta : totalT zs ≤ 1048576)
    (hf : (Lit.int .i64 f).wf = true) (ht : (Lit.int .i64 t).wf = true) :
    Calls Tryd.prog 6 #[.slice a n ca, .int .i64 f, .int .i64 t] w fun e w' => e = .returned (.bool true) ∧ Below w.heap.size w w' :=
  listTrims_all hl a n ca zs f t ha ta (i64_wf hf) (i64_wf ht)
end Go.Proofs.YtlecnlnpgghmbaaDoor

/- Two lists side by side. -/
namespace Go.Proofs.YtlecnlnpgghmbaaDoor
set_option linter.unusedVariables false
set_option linter.unusedSimpArgs false
open Go.RowKit
/-- Two lists, their blocks apart. -/
structure Two (w0 w : World) (x y : Nat) (L : List ByteArray) (s : Bool) (M : List ByteArray) (t : Bool) : Prop where
  got : ∃ F G, ListF w x F L s ∧ ListF w y G M t ∧ (∀ k, F k → w0.heap.size ≤ k) ∧ (∀ k, G k → w0.heap.size ≤ k) ∧ ∀ k, F k → ¬ G k
  bel : Below w0.heap.size w0 w
section
variable {w0 w w' : World} {x y : Nat} {L M : List ByteArray} {s t : Bool}
theorem Two.swap (h : Two w0 w x y L s M t) : Two w0 w y x M t L s := by
  obtain ⟨⟨F, G, h1, h2, h3, h4, h5⟩, hb⟩ := h
  exact ⟨⟨G, F, h2, h1, h4, h3, fun k hg hf => h5 k hf hg⟩, hb⟩
theorem Two.below (h : Two w0 w x y L s M t) (hb : Below w.heap.size w w') : Two w0 w' x y L s M t := by
  obtain ⟨⟨F, G, h1, h2, h3, h4, h5⟩, hb0⟩ := h
  exact ⟨⟨F, G, h1.below hb, h2.below hb, h3, h4, h5⟩, hb0.trans (hb.mono hb0.size)⟩
/-- The first one has changed. -/
theorem Two.step (hb : Below w0.heap.size w0 w) {F G : Nat → Prop} (h1 : ListF w x F L s) (h2 : ListF w y G M t) (h3 : ∀ k, F k → w0.heap.size ≤ k) (h4 : ∀ k, G k → w0.heap.size ≤ k) (h5 : ∀ k, F k → ¬ G k) {L' : List ByteArray} {s' : Bool}
    (hn : ∃ F', ListF w' x F' L' s' ∧ Fresh w F F') (hc : Chg F w w') : Two w0 w' x y L' s' M t := by
  obtain ⟨F', h6, h7⟩ := hn
  refine ⟨⟨F', G, h6, h2.chg hc fun k hg hf => h5 k hf hg, fun k hk => (h7 k hk).elim (h3 k) fun h => Nat.le_trans hb.size h, h4, fun k hk hg => ?_⟩, belowChg hb hc hb.size fun k hk _ => h3 k hk⟩
  rcases h7 k hk with h | h
  · exact h5 k h hg
  · have := h2.lt hg; omega
theorem Two.push (h : Two w0 w x y L s M t) (hl : Laid w0) (front : Bool) (z : ByteArray) (hz : z.size ≤ 65536) (hn : L.length < 1048576) :
    Calls Tryd.prog 10 #[pv x, .bool front, .string z] w fun e w' => e = .returned (.int .i64 0) ∧ Two w0 w' x y (pushT front L z) (s && keeps ((L.length : Int) + 1) z) M t := by
  obtain ⟨⟨F, G, h1, h2, h3, h4, h5⟩, hb⟩ := h
  refine (pushL hl hb hb.size h1 h3 front z hz hn).mono ?_
  rintro e w' ⟨rfl, hF, hc⟩
  exact ⟨rfl, Two.step hb h1 h2 h3 h4 h5 hF hc⟩
theorem Two.pop (h : Two w0 w x y L s M t) (hl : Laid w0) (front : Bool) (hn : 0 < L.length) :
    Calls Tryd.prog 11 #[pv x, .bool front] w fun e w' => e = .returned (.tuple #[.string (L.getD (popN front L) ByteArray.empty), .bool true]) ∧ Two w0 w' x y (L.take (popN front L) ++ L.drop (popN front L + 1)) s M t := by
  obtain ⟨⟨F, G, h1, h2, h3, h4, h5⟩, hb⟩ := h
  refine (popL hl hb hb.size h1 h3 front hn).mono ?_
  rintro e w' ⟨rfl, hF, hc⟩
  exact ⟨rfl, Two.step hb h1 h2 h3 h4 h5 hF hc⟩
theorem Two.len (h : Two w0 w x y L s M t) : Calls Tryd.prog 12 #[pv x] w fun e w' => e = .returned (.int .i64 L.length) ∧ w = w' := by
  obtain ⟨⟨F, G, h1, _⟩, _⟩ := h
  exact h1.len
theorem Two.range (h : Two w0 w x y L s M t) (hl : Laid w0) : Calls Tryd.prog 17 #[pv x, .int .i64 0, .int .i64 (-1)] w fun e w' => (∃ v, e = .returned v ∧ SliceIs w' w.heap.size 9 v L.length (L.map strV)) ∧ Below w.heap.size w w' := by
  obtain ⟨⟨F, G, h1, _⟩, hb⟩ := h
  have := rangeL (hl.below hb) h1 0 (-1) (by omega) (by omega)
  rw [rngL_all] at this
  exact this
theorem Two.small (h : Two w0 w x y L s M t) : Calls Tryd.prog 14 #[pv x] w fun e w' => e = .returned (.bool s) ∧ Below w.heap.size w w' := by
  obtain ⟨⟨F, G, h1, _⟩, hb⟩ := h
  exact h1.small
theorem Two.charge (h : Two w0 w x y L s M t) (hl : Laid w0) : Calls Tryd.prog 15 #[pv x] w fun e w' => e = .returned (.int .i64 (costL L)) ∧ Below w.heap.size w w' := by
  obtain ⟨⟨F, G, h1, _⟩, hb⟩ := h
  exact chargeL (hl.below hb) h1
end
/-! what is pushed and popped -/
def pushed (front : Bool) (L : List ByteArray) : List ByteArray := if front then L.reverse else L
theorem pushed_succ (front : Bool) {zs : List ByteArray} {k : Nat} (h : k < zs.length) : pushT front (pushed front (zs.take k)) (zs.getD k ByteArray.empty) = pushed front (zs.take (k + 1)) := by
  rw [List.take_succ_eq_append_getElem h]
  have : zs.getD k ByteArray.empty = zs[k] := by simp [List.getD, h]
  rw [this]
  cases front
  · rfl
  · show zs[k] :: (zs.take k).reverse = (zs.take k ++ [zs[k]]).reverse
    rw [List.reverse_append]; rfl
theorem pushed_len (front : Bool) (L : List ByteArray) : (pushed front L).length = L.length := by cases front <;> simp [pushed]
/-- What is left behind k pops, at the end where it was pushed and at the other one. -/
def leftX (front : Bool) (zs : List ByteArray) (k : Nat) : List ByteArray := if front then zs.reverse.drop k else zs.take (zs.length - k)
def leftY (front : Bool) (zs : List ByteArray) (k : Nat) : List ByteArray := if front then zs.reverse.take (zs.length - k) else zs.drop k
theorem pop_drop {M : List ByteArray} {k : Nat} (h : k < M.length) : 0 < (M.drop k).length ∧ (M.drop k).getD (popN true (M.drop k)) ByteArray.empty = M.getD k ByteArray.empty ∧ (M.drop k).take (popN true (M.drop k)) ++ (M.drop k).drop (popN true (M.drop k) + 1) = M.drop (k + 1) := by
  refine ⟨by rw [List.length_drop]; omega, ?_, ?_⟩
  · simp [popN, List.getD, List.getElem?_drop]
  · simp [popN, Nat.add_comm]
theorem pop_take {M : List ByteArray} {m : Nat} (h : m < M.length) : 0 < (M.take (m + 1)).length ∧ (M.take (m + 1)).getD (popN false (M.take (m + 1))) ByteArray.empty = M.getD m ByteArray.empty ∧ (M.take (m + 1)).take (popN false (M.take (m + 1))) ++ (M.take (m + 1)).drop (popN false (M.take (m + 1)) + 1) = M.take m := by
  have hl : (M.take (m + 1)).length = m + 1 := by rw [List.length_take]; omega
  have hp : popN false (M.take (m + 1)) = m := by unfold popN; rw [hl]; simp
  rw [hp, hl]
  refine ⟨by omega, ?_, ?_⟩
  · simp [List.getD, List.getElem?_take]
  · rw [List.take_take, List.drop_of_length_le (by omega), List.append_nil, show min m (m + 1) = m by omega]
theorem getD_reverse {zs : List ByteArray} {k : Nat} (h : k < zs.length) : zs.reverse.getD k ByteArray.empty = zs.getD (zs.length - 1 - k) ByteArray.empty := by
  simp only [List.getD]
  rw [List.getElem?_reverse h]
theorem leftX_pop (front : Bool) {zs : List ByteArray} {k : Nat} (h : k < zs.length) : 0 < (leftX front zs k).length ∧ (leftX front zs k).getD (popN front (leftX front zs k)) ByteArray.empty = zs.getD (zs.length - 1 - k) ByteArray.empty ∧ (leftX front zs k).take (popN front (leftX front zs k)) ++ (leftX front zs k).drop (popN front (leftX front zs k) + 1) = leftX front zs (k + 1) := by
  cases front
  · have h1 := pop_take (M := zs) (m := zs.length - 1 - k) (by omega)
    rw [show zs.length - 1 - k + 1 = zs.length - k by omega] at h1
    simp only [leftX, Bool.false_eq_true, if_false]
    rw [show zs.length - (k + 1) = zs.length - 1 - k by omega]
    exact h1
  · have h1 := pop_drop (M := zs.reverse) (k := k) (by simpa using h)
    rw [getD_reverse h] at h1
    simpa only [leftX, if_true] using h1
theorem leftY_pop (front : Bool) {zs : List ByteArray} {k : Nat} (h : k < zs.length) : 0 < (leftY front zs k).length ∧ (leftY front zs k).getD (popN (!front) (leftY front zs k)) ByteArray.empty = zs.getD k ByteArray.empty ∧ (leftY front zs k).take (popN (!front) (leftY front zs k)) ++ (leftY front zs k).drop (popN (!front) (leftY front zs k) + 1) = leftY front zs (k + 1) := by
  cases front
  · simp only [leftY, Bool.false_eq_true, if_false, Bool.not_false]
    exact pop_drop h
  · have h1 := pop_take (M := zs.reverse) (m := zs.length - 1 - k) (by simp; omega)
    rw [show zs.length - 1 - k + 1 = zs.length - k by omega, getD_reverse (by omega), show zs.length - 1 - (zs.length - 1 - k) = k by omega] at h1
    simp only [leftY, if_true, Bool.not_true]
    rw [show zs.length - (k + 1) = zs.length - 1 - k by omega]
    exact h1
theorem left_zero (front : Bool) (zs : List ByteArray) : leftX front zs 0 = pushed front zs ∧ leftY front zs 0 = pushed front zs := by
  cases front
  · simp [leftX, leftY, pushed]
  · have : zs.reverse.take zs.length = zs.reverse := List.take_of_length_le (by simp)
    simp [leftX, leftY, pushed, this]
theorem left_end (front : Bool) (zs : List ByteArray) : leftX front zs zs.length = [] ∧ leftY front zs zs.length = [] := by
  cases front
  · simp [leftX, leftY]
  · have : zs.reverse.drop zs.length = [] := List.drop_of_length_le (by simp)
    simp [leftX, leftY, this]
theorem leftX_len (front : Bool) {zs : List ByteArray} {k : Nat} : (leftX front zs k).length = zs.length - k := by
  cases front <;> simp [leftX]
end Go.Proofs.YtlecnlnpgghmbaaDoor

/- The law ListSmall: the walk. -/
namespace Go.Proofs.YtlecnlnpgghmbaaDoor
set_option linter.unusedVariables false
set_option linter.unusedSimpArgs false
open Go.RowKit
abbrev longT : ByteArray := { data := ([109, 111, 114, 101, 32, 116, 104, 97, 110, 32, 115, 105, 120, 116, 121, 45, 102, 111, 117, 114, 32, 98, 121, 116, 101, 115, 44, 32, 119, 104, 97, 116, 101].append [118, 101, 114, 32, 101, 108, 115, 101, 32, 116, 104, 105, 115, 32, 116, 101, 120, 116, 32, 109, 97, 121, 32, 98, 101, 32, 103, 111, 111, 100, 32, 102, 111, 114]).toArray }
/-- Small so far. -/
def smS (n : Nat) (L : List ByteArray) : Bool := decide (n ≤ 32) && L.all fun s => decide (s.size ≤ 64)
theorem smS_take {zs : List ByteArray} {n k : Nat} (h : k < zs.length) : smS n (zs.take (k + 1)) = (smS n (zs.take k) && decide ((zs.getD k ByteArray.empty).size ≤ 64)) := by
  unfold smS
  rw [List.take_succ_eq_append_getElem h, List.all_append, Bool.and_assoc]
  simp [List.getD, h]
theorem smS_all (zs : List ByteArray) : smS zs.length zs = smallT zs := rfl
theorem pop_rep (zs : List ByteArray) (m : Nat) (t : ByteArray) : 0 < (zs ++ List.replicate (m + 1) t).length ∧ (zs ++ List.replicate (m + 1) t).take (popN false (zs ++ List.replicate (m + 1) t)) ++ (zs ++ List.replicate (m + 1) t).drop (popN false (zs ++ List.replicate (m + 1) t) + 1) = zs ++ List.replicate m t := by
  have hp : popN false (zs ++ List.replicate (m + 1) t) = zs.length + m := by simp [popN]
  rw [hp]
  refine ⟨by simp; omega, ?_⟩
  rw [List.drop_of_length_le (by simp; omega), List.append_nil, List.take_append, List.take_of_length_le (by omega)]
  simp [List.take_replicate]
theorem push_rep (zs : List ByteArray) (m : Nat) (t : ByteArray) : pushT false (zs ++ List.replicate m t) t = zs ++ List.replicate (m + 1) t := by
  unfold pushT
  rw [if_neg (by simp), List.replicate_succ', List.append_assoc]
set_option maxHeartbeats 6400000 in
set_option maxRecDepth 100000 in
theorem listSmall_walk {w : World} (hl : Laid w) (a : Option Addr) (n ca : Nat) (zs : List ByteArray) (much : Bool) (ha : zs.length = n ∧ ArgRow w a n ca fun i => .string (zs.getD i ByteArray.empty)) (ta : totalT zs ≤ 1048576) :
    Calls Tryd.prog 4 #[.slice a n ca, .bool much] w fun e w' => e = .returned (.bool true) ∧ Below w.heap.size w w' := by
  have HAl := Lib.hid (fun w' (hb : Below w.heap.size w w') => alive12_any (hl.below hb))
  have HA := Lib.hid (fun w' (hbe : Below w.heap.size w w') => show ArgRow w' a n ca fun i => .string (zs.getD i ByteArray.empty) from ha.2.belowT hbe)
  have HLd := Lib.hid (fun w' (hbe : Below w.heap.size w w') => hl.below hbe)
  have HL := Lib.hid hl
  have hac := ha.2.1
  have HLn := Lib.hid ha.1
  have HTot := Lib.hid ta
  clear ta hl ha
  cases hm : (fitsT zs && decide (n ≤ 400)) with
  | false =>
    have HM := Lib.hid (fun w' (hb : Below w.heap.size w w') => may12_any w' a n ca zs HLn.out (HA.out w' hb) HTot.out)
    rw [hm] at HM
    clear hm
    go_enter Tryd.func4, Tryd.ntmps4
    go_wp2_with fail
    refine (HAl.out _ (Below.refl _ _)).mono ?_
    rintro e w1 ⟨rfl, b1⟩
    have B1 := Lib.hid b1
    clear b1
    go_wp2_with fail
    refine (HM.out _ B1.out).mono ?_
    rintro e w2 ⟨rfl, b2⟩
    have B2 := Lib.hid (B1.out.trans (b2.mono B1.out.size))
    clear b2
    go_wp2_with fail
    refine (HAl.out _ B2.out).mono ?_
    rintro e w3 ⟨rfl, b3⟩
    have B3 := Lib.hid (B2.out.trans (b3.mono B2.out.size))
    clear b3
    go_wp2_with fail
    go_ret
    exact ⟨rfl, B3.out⟩
  | true =>
    have HM := Lib.hid (fun w' (hb : Below w.heap.size w w') => may12_any w' a n ca zs HLn.out (HA.out w' hb) HTot.out)
    rw [hm] at HM
    simp only [Bool.and_eq_true, decide_eq_true_eq] at hm
    have hn4 : n ≤ 400 := hm.2
    have HZ := Lib.hid (fitsT_all hm.1)
    have HCo := Lib.hid (fun k => costL_le (zs.take k) fun s hs => HZ.out s (List.mem_of_mem_take hs))
    clear hm
    go_enter Tryd.func4, Tryd.ntmps4
    go_wp2_with fail
    refine (HAl.out _ (Below.refl _ _)).mono ?_
    rintro e w1 ⟨rfl, b1⟩
    have B1 := Lib.hid b1
    clear b1
    go_wp2_with fail
    refine (HM.out _ B1.out).mono ?_
    rintro e w2 ⟨rfl, b2⟩
    have B2 := Lib.hid (B1.out.trans (b2.mono B1.out.size))
    have HO := Lib.hid (ofL (HLd.out _ B2.out) a n ca zs HLn.out (HA.out _ B2.out) HZ.out (by omega))
    clear b2
    go_wp2_with fail
    refine HO.out.mono ?_
    rintro e w3 ⟨⟨x, F, rfl, q3, k3⟩, b3⟩
    have hb3 : Below w.heap.size w w3 := B2.out.trans (b3.mono B2.out.size)
    have HO3 := Lib.hid (ofL (HLd.out _ hb3) a n ca zs HLn.out (HA.out _ hb3) HZ.out (by omega))
    have HQ3 := Lib.hid (And.intro q3 (And.intro k3 hb3))
    clear q3 k3 b3 hb3 HO
    go_wp2_with fail
    refine HO3.out.mono ?_
    rintro e w4 ⟨⟨y, G, rfl, q4, k4⟩, b4⟩
    have HT4 := Lib.hid (show Two w w4 x y zs (smallT zs) zs (smallT zs) from ⟨⟨F, G, HQ3.out.1.below b4, q4, fun k hk => Nat.le_trans B2.out.size (HQ3.out.2.1 k hk), fun k hk => Nat.le_trans HQ3.out.2.2.size (k4 k hk), fun k hf hg => by
      have := HQ3.out.1.lt hf
      have := k4 k hg
      omega⟩, HQ3.out.2.2.trans (b4.mono HQ3.out.2.2.size)⟩)
    have HA4 := Lib.hid (HA.out w4 HT4.out.bel)
    have HS4 := Lib.hid HT4.out.small
    have HSm := Lib.hid (smS_all zs)
    rw [HLn.out] at HSm
    clear q4 k4 b4 HO3
    have hn32 : ∃ q, decide ((n : Int) ≤ 32) = q ∧ decide (n ≤ 32) = q := by
      by_cases h : n ≤ 32
      · exact ⟨true, decide_eq_true (by omega), decide_eq_true h⟩
      · exact ⟨false, decide_eq_false (by omega), decide_eq_false h⟩
    obtain ⟨q32, hq32, hq32'⟩ := hn32
    have HS0 := Lib.hid (show smS n (zs.take 0) = q32 by unfold smS; rw [List.take_zero, hq32']; simp)
    clear hq32'
    go_wp2_with fail
    go_loop [9, 10, 11] (fun s c i => ∃ k : Nat, k ≤ n ∧ i = .int .i64 k ∧ s = .bool (smS n (zs.take k)) ∧ c = .int .i64 (costL (zs.take k) : Nat)) (fun _ _ i => n - (intOf i).toNat)
    case atStart => exact ⟨0, Nat.zero_le _, rfl, by rw [HS0.out], rfl⟩
    case round =>
      obtain ⟨k, hk, rfl, rfl, rfl⟩ := hrel
      have hc := HCo.out k
      rw [List.length_take] at hc
      by_cases hlt : k < n
      · obtain ⟨b, o, hb, hcl⟩ := HA4.out.2.resolve_left (by omega)
        subst hb
        have hkl : k < zs.length := by rw [HLn.out]; exact hlt
        have hcell : w4.cell? ⟨b, o + k, none⟩ = some (.string (zs.getD k ByteArray.empty)) := hcl k hlt
        have hz := HZ.out (zs.getD k ByteArray.empty) (by simp [List.getD, hkl])
        have HN := Lib.hid (costL_take hkl)
        have HN2 := Lib.hid (smS_take (n := n) hkl)
        clear hcl
        generalize zs.getD k ByteArray.empty = z at *
        generalize costL (zs.take k) = q at *
        generalize smS n (zs.take k) = r at *
        cases r with
        | false =>
          go_wp2_with fail
          go_round
          case rel => exact ⟨k + 1, by omega, by go_num, by rw [HN2.out, Bool.false_and], by rw [HN.out]; go_num⟩
          case measure => simp [intOf]; omega
        | true =>
          by_cases h64 : z.size ≤ 64
          · have g1 : decide ((z.size : Int) ≤ 64) = true := decide_eq_true (by omega)
            have g2 : decide (z.size ≤ 64) = true := decide_eq_true h64
            have HG := Lib.hid g2
            go_wp2_with fail
            go_round
            case rel => exact ⟨k + 1, by omega, by go_num, by rw [HN2.out, HG.out]; rfl, by rw [HN.out]; go_num⟩
            case measure => simp [intOf]; omega
          · have g1 : decide ((z.size : Int) ≤ 64) = false := decide_eq_false (by omega)
            have g2 : decide (z.size ≤ 64) = false := decide_eq_false h64
            have HG := Lib.hid g2
            go_wp2_with fail
            go_round
            case rel => exact ⟨k + 1, by omega, by go_num, by rw [HN2.out, HG.out]; rfl, by rw [HN.out]; go_num⟩
            case measure => simp [intOf]; omega
      · obtain rfl : k = n := by omega
        have hL := HLn.out
        rw [List.take_of_length_le (by rw [HLn.out]; exact Nat.le_refl _)] at hc ⊢
        rw [HSm.out]
        clear hL
        obtain ⟨cq, hcq⟩ : ∃ cq, cq = costL zs := ⟨_, rfl⟩
        rw [← hcq] at hc ⊢
        have HCq := Lib.hid hcq
        obtain ⟨sb, hsb⟩ : ∃ sb, sb = smallT zs := ⟨_, rfl⟩
        rw [← hsb] at HS4 HT4 ⊢
        clear hcq hsb
        have HC5 := Lib.hid (fun (w' : World) (b : Below w4.heap.size w4 w') => (HT4.out.below b).charge HL.out)
        rw [← HCq.out] at HC5
        cases much
        case false =>
          go_wp2_with fail
          refine HS4.out.mono ?_
          rintro e w5 ⟨rfl, b5⟩
          have HC := Lib.hid (HC5.out w5 b5)
          have HT5 := Lib.hid (HT4.out.below b5)
          clear b5 HC5
          go_wp2_with fail
          refine HC.out.mono ?_
          rintro e w6 ⟨rfl, b6⟩
          have HT6 := Lib.hid (HT5.out.below b6)
          clear b6 HC
          go_wp2_with fail
          go_loopw [13] (fun i wr => ∃ j : Nat, j ≤ 1 ∧ i = .int .i64 j ∧ Hid (∃ t, Two w wr x y zs sb (zs ++ List.replicate j longT) t ∧ (t = true → 0 < j → (k : Int) + (j : Nat) ≤ 32 ∧ ByteArray.size longT ≤ 64))) (fun i _ => 1 - (intOf i).toNat)
          case atStart => exact ⟨0, Nat.zero_le _, rfl, Lib.hid ⟨sb, by rw [List.replicate_zero, List.append_nil]; exact HT6.out, fun _ h => absurd h (by omega)⟩⟩
          case round =>
            obtain ⟨j, hj, rfl, hI⟩ := hrel
            by_cases hlt : j < 1
            · obtain ⟨t, hT, ht⟩ := hI.out
              have hd : decide ((j : Int) < 1) = true := decide_eq_true (by omega)
              have HP := Lib.hid (hT.swap.push HL.out false longT (by decide) (by rw [List.length_append, List.length_replicate, HLn.out]; omega))
              rw [push_rep] at HP
              have HNx := Lib.hid (show (t && keeps (((zs ++ List.replicate j longT).length : Int) + 1) longT) = true → (k : Int) + (j + 1 : Nat) ≤ 32 ∧ ByteArray.size longT ≤ 64 from fun h => by
                have h2 := (Bool.and_eq_true_iff.1 h).2
                unfold keeps at h2
                have h3 := Bool.and_eq_true_iff.1 h2
                have h4 := of_decide_eq_true h3.1
                rw [List.length_append, List.length_replicate, HLn.out] at h4
                exact ⟨by omega, of_decide_eq_true h3.2⟩)
              clear hI hT ht
              go_wp2_with fail
              refine HP.out.mono ?_
              rintro e w7 ⟨rfl, h7⟩
              have HS := Lib.hid (show ∃ t, Two w w7 x y zs sb (zs ++ List.replicate (j + 1) longT) t ∧ (t = true → 0 < j + 1 → (k : Int) + (j + 1 : Nat) ≤ 32 ∧ ByteArray.size longT ≤ 64) from ⟨_, h7.swap, fun h _ => HNx.out h⟩)
              clear h7 HP HNx
              go_wp2_with fail
              go_roundw
              case rel => exact ⟨j + 1, by omega, by go_num, HS⟩
              case measure => simp [intOf]; omega
            · obtain rfl : j = 1 := by omega
              rw [show ((1 : Nat) : Int) = 1 from rfl]
              obtain ⟨w7, rfl⟩ : ∃ w7, w7 = wr := ⟨_, rfl⟩
              have HT7 := Lib.hid (show Two w w7 x y zs sb (zs ++ List.replicate (1 - 0) longT) false by
                obtain ⟨t, hT, ht⟩ := hI.out
                cases t with
                | false => exact hT
                | true =>
                  have h := ht rfl (by omega)
                  exact absurd h (fun h => absurd h.2 (by decide)))
              clear hI
              go_wp2_with fail
              go_loopw [15] (fun i wr => ∃ j : Nat, j ≤ 1 ∧ i = .int .i64 j ∧ Hid (Two w wr x y zs sb (zs ++ List.replicate (1 - j) longT) false)) (fun i _ => 1 - (intOf i).toNat)
              case atStart => exact ⟨0, Nat.zero_le _, rfl, HT7⟩
              case round =>
                obtain ⟨j, hj, rfl, hI⟩ := hrel
                by_cases hlt : j < 1
                · have hd : decide ((j : Int) < 1) = true := decide_eq_true (by omega)
                  obtain ⟨m, hm⟩ : ∃ m, 1 - j = m + 1 := ⟨1 - j - 1, by omega⟩
                  have hT := hI.out
                  rw [hm] at hT
                  have HP := Lib.hid (hT.swap.pop HL.out false (pop_rep zs m longT).1)
                  rw [(pop_rep zs m longT).2] at HP
                  obtain rfl : m = 1 - (j + 1) := by omega
                  clear hI hT hm
                  generalize (zs ++ List.replicate (1 - (j + 1) + 1) longT).getD (popN false (zs ++ List.replicate (1 - (j + 1) + 1) longT)) ByteArray.empty = gy at *
                  go_wp2_with fail
                  refine HP.out.mono ?_
                  rintro e w8 ⟨rfl, h8⟩
                  have HS := Lib.hid h8.swap
                  clear h8 HP
                  go_wp2_with fail
                  go_roundw
                  case rel => exact ⟨j + 1, by omega, by go_num, HS⟩
                  case measure => simp [intOf]; omega
                · obtain rfl : j = 1 := by omega
                  have hT := hI.out
                  rw [Nat.sub_self, List.replicate_zero, List.append_nil] at hT
                  have HT8 := Lib.hid hT
                  have HSy := Lib.hid hT.swap.small
                  clear hI hT
                  go_wp2_with fail
                  refine HSy.out.mono ?_
                  rintro e w9 ⟨rfl, b9⟩
                  have HT9 := Lib.hid (HT8.out.below b9)
                  have HCy := Lib.hid (HT9.out.swap.charge HL.out)
                  rw [← HCq.out] at HCy
                  clear b9 HSy
                  go_wp2_with fail
                  refine HCy.out.mono ?_
                  rintro e w10 ⟨rfl, b10⟩
                  have HT10 := Lib.hid (HT9.out.below b10)
                  have HRx := Lib.hid (HT10.out.range HL.out)
                  rw [HLn.out] at HRx
                  clear b10 HCy
                  go_wp2_with fail
                  refine HRx.out.mono ?_
                  rintro e w11 ⟨⟨v11, rfl, s11⟩, b11⟩
                  obtain ⟨a11, c11, rfl, har11⟩ := texts_of_slice s11
                  have HT11 := Lib.hid (HT10.out.below b11)
                  have HRy := Lib.hid (HT11.out.swap.range HL.out)
                  rw [HLn.out] at HRy
                  have HA11 := Lib.hid har11
                  clear s11 b11 har11 HRx
                  go_wp2_with fail
                  refine HRy.out.mono ?_
                  rintro e w12 ⟨⟨v12, rfl, s12⟩, b12⟩
                  obtain ⟨a12, c12, rfl, har12⟩ := texts_of_slice s12
                  have HSt := Lib.hid (sameTexts_any w12 a11 a12 k k c11 c12 zs zs HLn.out HLn.out (HA11.out.belowT b12) har12 (by omega))
                  rw [decide_eq_true rfl] at HSt
                  have HB12 := Lib.hid (HT11.out.bel.trans (b12.mono HT11.out.bel.size))
                  clear s12 b12 har12 HRy
                  go_wp2_with fail
                  refine HSt.out.mono ?_
                  rintro e w13 ⟨rfl, d13, hw13⟩
                  have HB13 := Lib.hid (show Below w.heap.size w w13 by rw [hw13]; exact belowN HB12.out _)
                  clear hw13
                  go_wp2_with fail
                  go_ret
                  exact ⟨rfl, HB13.out⟩
        case true =>
          go_wp2_with fail
          refine HS4.out.mono ?_
          rintro e w5 ⟨rfl, b5⟩
          have HC := Lib.hid (HC5.out w5 b5)
          have HT5 := Lib.hid (HT4.out.below b5)
          clear b5 HC5
          go_wp2_with fail
          refine HC.out.mono ?_
          rintro e w6 ⟨rfl, b6⟩
          have HT6 := Lib.hid (HT5.out.below b6)
          clear b6 HC
          go_wp2_with fail
          go_loopw [13] (fun i wr => ∃ j : Nat, j ≤ 33 ∧ i = .int .i64 j ∧ Hid (∃ t, Two w wr x y zs sb (zs ++ List.replicate j (⟨#[]⟩ : ByteArray)) t ∧ (t = true → 0 < j → (k : Int) + (j : Nat) ≤ 32 ∧ ByteArray.size (⟨#[]⟩ : ByteArray) ≤ 64))) (fun i _ => 33 - (intOf i).toNat)
          case atStart => exact ⟨0, Nat.zero_le _, rfl, Lib.hid ⟨sb, by rw [List.replicate_zero, List.append_nil]; exact HT6.out, fun _ h => absurd h (by omega)⟩⟩
          case round =>
            obtain ⟨j, hj, rfl, hI⟩ := hrel
            by_cases hlt : j < 33
            · obtain ⟨t, hT, ht⟩ := hI.out
              have hd : decide ((j : Int) < 33) = true := decide_eq_true (by omega)
              have HP := Lib.hid (hT.swap.push HL.out false (⟨#[]⟩ : ByteArray) (by decide) (by rw [List.length_append, List.length_replicate, HLn.out]; omega))
              rw [push_rep] at HP
              have HNx := Lib.hid (show (t && keeps (((zs ++ List.replicate j (⟨#[]⟩ : ByteArray)).length : Int) + 1) (⟨#[]⟩ : ByteArray)) = true → (k : Int) + (j + 1 : Nat) ≤ 32 ∧ ByteArray.size (⟨#[]⟩ : ByteArray) ≤ 64 from fun h => by
                have h2 := (Bool.and_eq_true_iff.1 h).2
                unfold keeps at h2
                have h3 := Bool.and_eq_true_iff.1 h2
                have h4 := of_decide_eq_true h3.1
                rw [List.length_append, List.length_replicate, HLn.out] at h4
                exact ⟨by omega, of_decide_eq_true h3.2⟩)
              clear hI hT ht
              go_wp2_with fail
              refine HP.out.mono ?_
              rintro e w7 ⟨rfl, h7⟩
              have HS := Lib.hid (show ∃ t, Two w w7 x y zs sb (zs ++ List.replicate (j + 1) (⟨#[]⟩ : ByteArray)) t ∧ (t = true → 0 < j + 1 → (k : Int) + (j + 1 : Nat) ≤ 32 ∧ ByteArray.size (⟨#[]⟩ : ByteArray) ≤ 64) from ⟨_, h7.swap, fun h _ => HNx.out h⟩)
              clear h7 HP HNx
              go_wp2_with fail
              go_roundw
              case rel => exact ⟨j + 1, by omega, by go_num, HS⟩
              case measure => simp [intOf]; omega
            · obtain rfl : j = 33 := by omega
              rw [show ((33 : Nat) : Int) = 33 from rfl]
              obtain ⟨w7, rfl⟩ : ∃ w7, w7 = wr := ⟨_, rfl⟩
              have HT7 := Lib.hid (show Two w w7 x y zs sb (zs ++ List.replicate (33 - 0) (⟨#[]⟩ : ByteArray)) false by
                obtain ⟨t, hT, ht⟩ := hI.out
                cases t with
                | false => exact hT
                | true =>
                  have h := ht rfl (by omega)
                  exact absurd h (fun h => by omega))
              clear hI
              go_wp2_with fail
              go_loopw [15] (fun i wr => ∃ j : Nat, j ≤ 33 ∧ i = .int .i64 j ∧ Hid (Two w wr x y zs sb (zs ++ List.replicate (33 - j) (⟨#[]⟩ : ByteArray)) false)) (fun i _ => 33 - (intOf i).toNat)
              case atStart => exact ⟨0, Nat.zero_le _, rfl, HT7⟩
              case round =>
                obtain ⟨j, hj, rfl, hI⟩ := hrel
                by_cases hlt : j < 33
                · have hd : decide ((j : Int) < 33) = true := decide_eq_true (by omega)
                  obtain ⟨m, hm⟩ : ∃ m, 33 - j = m + 1 := ⟨33 - j - 1, by omega⟩
                  have hT := hI.out
                  rw [hm] at hT
                  have HP := Lib.hid (hT.swap.pop HL.out false (pop_rep zs m (⟨#[]⟩ : ByteArray)).1)
                  rw [(pop_rep zs m (⟨#[]⟩ : ByteArray)).2] at HP
                  obtain rfl : m = 33 - (j + 1) := by omega
                  clear hI hT hm
                  generalize (zs ++ List.replicate (33 - (j + 1) + 1) (⟨#[]⟩ : ByteArray)).getD (popN false (zs ++ List.replicate (33 - (j + 1) + 1) (⟨#[]⟩ : ByteArray))) ByteArray.empty = gy at *
                  go_wp2_with fail
                  refine HP.out.mono ?_
                  rintro e w8 ⟨rfl, h8⟩
                  have HS := Lib.hid h8.swap
                  clear h8 HP
                  go_wp2_with fail
                  go_roundw
                  case rel => exact ⟨j + 1, by omega, by go_num, HS⟩
                  case measure => simp [intOf]; omega
                · obtain rfl : j = 33 := by omega
                  have hT := hI.out
                  rw [Nat.sub_self, List.replicate_zero, List.append_nil] at hT
                  have HT8 := Lib.hid hT
                  have HSy := Lib.hid hT.swap.small
                  clear hI hT
                  go_wp2_with fail
                  refine HSy.out.mono ?_
                  rintro e w9 ⟨rfl, b9⟩
                  have HT9 := Lib.hid (HT8.out.below b9)
                  have HCy := Lib.hid (HT9.out.swap.charge HL.out)
                  rw [← HCq.out] at HCy
                  clear b9 HSy
                  go_wp2_with fail
                  refine HCy.out.mono ?_
                  rintro e w10 ⟨rfl, b10⟩
                  have HT10 := Lib.hid (HT9.out.below b10)
                  have HRx := Lib.hid (HT10.out.range HL.out)
                  rw [HLn.out] at HRx
                  clear b10 HCy
                  go_wp2_with fail
                  refine HRx.out.mono ?_
                  rintro e w11 ⟨⟨v11, rfl, s11⟩, b11⟩
                  obtain ⟨a11, c11, rfl, har11⟩ := texts_of_slice s11
                  have HT11 := Lib.hid (HT10.out.below b11)
                  have HRy := Lib.hid (HT11.out.swap.range HL.out)
                  rw [HLn.out] at HRy
                  have HA11 := Lib.hid har11
                  clear s11 b11 har11 HRx
                  go_wp2_with fail
                  refine HRy.out.mono ?_
                  rintro e w12 ⟨⟨v12, rfl, s12⟩, b12⟩
                  obtain ⟨a12, c12, rfl, har12⟩ := texts_of_slice s12
                  have HSt := Lib.hid (sameTexts_any w12 a11 a12 k k c11 c12 zs zs HLn.out HLn.out (HA11.out.belowT b12) har12 (by omega))
                  rw [decide_eq_true rfl] at HSt
                  have HB12 := Lib.hid (HT11.out.bel.trans (b12.mono HT11.out.bel.size))
                  clear s12 b12 har12 HRy
                  go_wp2_with fail
                  refine HSt.out.mono ?_
                  rintro e w13 ⟨rfl, d13, hw13⟩
                  have HB13 := Lib.hid (show Below w.heap.size w w13 by rw [hw13]; exact belowN HB12.out _)
                  clear hw13
                  go_wp2_with fail
                  go_ret
                  exact ⟨rfl, HB13.out⟩
end Go.Proofs.YtlecnlnpgghmbaaDoor

/- what a row's list of variables gives (door seats): Laid; and a world that meets it. -/
namespace Go.Proofs.YtlecnlnpgghmbaaDoor
set_option linter.unusedVariables false
set_option linter.unusedSimpArgs false
open Go.RowKit
namespace Lay
theorem star : "*" ++ "errors.errorString" = "*errors.errorString" := by decide
theorem rowErr (u : TypeId) (h : Tryd.prog.typeName? 3 u = some "*errors.errorString") : u = 130 :=
  typeName_ptr_named (nm := "errors.errorString") (by rw [star]; kernel_rfl) (by kernel_rfl) (by decide) u (by rw [star]; exact h)
theorem laid_of {W : World} (h : laidMetH Tryd.prog Rows.listEndsRow.laid W) (hs : W.ShapedOpen Tryd.prog) : Laid W := by
  have h0 : laidMet Tryd.prog Rows.listEndsRow.laid W := h
  have h3 : laidMet Tryd.prog [("internal/strconv.uint64pow10", Rows.laid_internal_strconv_uint64pow10), ("strconv.ErrRange", Rows.laid_strconv_ErrRange), ("strconv.ErrSyntax", Rows.laid_strconv_ErrSyntax)] W := h0.tail.tail
  refine { tab := Lib.tabIs_of_head (n := 20) (g := 2) (by kernel_rfl) (by kernel_rfl) Tryd.underlying124 Tryd.underlying80 (by kernel_rfl) (by kernel_rfl) h3, syn := ?_, rng := ?_
         }
  · obtain ⟨a, _, hv, _⟩ := laid_sentinel (g := 0) h3.tail.tail (by kernel_rfl) (by kernel_rfl) Tryd.underlying101 rowErr Tryd.underlying130 Tryd.underlying132 rfl rfl Tryd.underlying9 (by kernel_rfl) (by kernel_rfl)
    exact ⟨_, _, hv⟩
  · obtain ⟨a, _, hv, _⟩ := laid_sentinel (g := 1) h3.tail (by kernel_rfl) (by kernel_rfl) Tryd.underlying101 rowErr Tryd.underlying130 Tryd.underlying132 rfl rfl Tryd.underlying9 (by kernel_rfl) (by kernel_rfl)
    exact ⟨_, _, hv⟩
/-- So many blocks has the settled world. -/
noncomputable def low : Nat := (World.holding Tryd.prog default ⟨#[], #[], []⟩).heap.size
abbrev synS : ByteArray := { data := #[105, 110, 118, 97, 108, 105, 100, 32, 115, 121, 110, 116, 97, 120] }
abbrev rngS : ByteArray := { data := #[118, 97, 108, 117, 101, 32, 111, 117, 116, 32, 111, 102, 32, 114, 97, 110, 103, 101] }
def lits : List (DataW Unit) → Array Value
  | [] => #[]
  | .lit (.int k n) :: l => #[.int k n] ++ lits l
  | _ :: l => lits l
def table : DataW Unit → Array Value
  | .agg l => lits l
  | _ => #[]
def into (cs : Array Value) : Obj → Obj
  | .cells _ t frozen => .cells cs t frozen
  | o => o
noncomputable def laidWorld (os : Os) : World :=
  let w0 := World.holding Tryd.prog os ⟨#[.cells #[.string synS] 132, .cells #[.string rngS] 132], #[], []⟩
  { w0 with heap := ((((w0.heap.modify 2 (into (table Rows.laid_internal_strconv_uint64pow10))).modify 3 (into (table Rows.laid_math_bits_deBruijn32tab))).modify 4 (into (table Rows.laid_math_bits_deBruijn64tab))).modify 0 (into #[.iface 130 (.pointer (some ⟨low, 0, none⟩))])).modify 1 (into #[.iface 130 (.pointer (some ⟨low + 1, 0, none⟩))]) }
theorem laid_met (os : Os) (args : Array Value) : laidMet Tryd.prog Rows.listEndsRow.laid ((laidWorld os).forCall (fun _ _ => 0) ⟨#[], args, []⟩).memory :=
  laidMet_of_run' 8 (by kernel_rfl) (by kernel_rfl)
end Lay
end Go.Proofs.YtlecnlnpgghmbaaDoor

/- The row of the law ListSmall, and its card: for every input of at most 1048576 values and letters the Go function returns true and its arguments read as before, out of the walk listSmall_walk. The library's variables that the row lists hold what the program's text lays (the card's tie, given). -/
namespace Go.Proofs.YtlecnlnpgghmbaaDoor.listSmallRow
open Go.ChangeShapes Go.WideShapes Go.ChangeAt Go.RowKit
open Go.ChangeMaps (open_string shut_string)
set_option linter.unusedVariables false
set_option linter.unusedSimpArgs false
theorem own : ownKnob Tryd.prog.godebug = none := by kernel_rfl
theorem laidOut : laidOutB Tryd.prog = true := by kernel_rfl
theorem bulk {H : Type} {l : List (DataW H)} (hk : Rows.uptoSmall H l = true) : Rows.uptoBulkAll l ≤ 1048576 := of_decide_eq_true hk
theorem reads (os : Os) {H : Type} (enc : TypeId × Value → H) : ∃ places, DataW.whole enc Tryd.prog ((Lay.laidWorld os).forCall (fun _ _ => 0) ⟨#[], #[.slice none 0 0, .bool false], []⟩).memory Tryd.f4.params.toList Rows.listSmallSpec.vars false (#[.slice none 0 0, .bool false] : Array Value).toList 8 = some ([.nil, .lit (.bool false)], [], places) :=
  ⟨[], by kernel_rfl⟩
set_option maxRecDepth 100000 in
theorem contract (H : Type) (enc : TypeId × Value → H) (W : World) (base : Nat) (args : Array Value) (ds gs : List (DataW H)) (before : List MemPlace)
    (hval0 : ∀ (j : Nat) t v, Tryd.f4.params[j]? = some t → args[j]? = some v → Value.okWide Tryd.prog W .any base t v)
    (hW : DataW.Whole enc Tryd.prog Tryd.f4.params.toList Rows.listSmallSpec.vars false W args.toList ds gs before) (hk0 : Rows.uptoSmall H (ds ++ gs) = true)
    (hsz0 : (DataW.weightsEach Tryd.prog (Tryd.f4.params.toList ++ Rows.listSmallSpec.plain.varTypes Tryd.prog) (ds ++ gs)).all (· ≤ reachBytes) = true) (hL : Laid W) :
    Calls Tryd.prog 4 args W fun e W' => ∃ v, e = .returned v ∧ Rows.listSmallSpec.post enc Tryd.prog Tryd.f4 false true false false W args v W' := by
  have hsz := hsz0
  have hk := bulk hk0
  have hval : ∀ (j : Nat) t v, Tryd.f4.params[j]? = some t → args[j]? = some v → Value.okWide Tryd.prog W .any base t v := hval0
  have hW' := hW
  obtain ⟨p, q, hA0, hV, rfl, hfz, hnd⟩ := hW
  have hA : DataW.TrodAll enc Tryd.prog W 0 (fun _ => true) true Tryd.f4.params.toList args.toList ds p := hA0
  rw [Tryd.params4] at hA hval hsz
  obtain ⟨v0, vs0, d0, ds0, p0, q0, hargs, rfl, rfl, h0, r0⟩ := trodAll_cons hA
  obtain ⟨v1, vs1, d1, ds1, p1, q1, rfl, rfl, rfl, h1, r1⟩ := trodAll_cons r0
  obtain ⟨rfl, rfl, rfl⟩ := trodAll_nil r1
  obtain rfl : args = #[v0, v1] := by cases args; simp_all
  obtain ⟨rfl, rfl⟩ := trodVars_none hV
  have k0 := h0
  have lt0 : ∀ x ∈ p0, x.block < W.heap.size := by obtain ⟨m, hm⟩ := k0; exact DataW.trod_lt m _ _ _ hm
  obtain ⟨a0, len0, cap0, rfl⟩ := okWide_slice Tryd.underlying22 (hval 0 22 v0 rfl rfl)
  have b0 : Rows.uptoBulk d0 ≤ 1048576 := by
    have := hk
    simp only [List.cons_append, List.nil_append, List.append_nil, Rows.uptoBulkAll] at this
    omega
  obtain ⟨z0, w0, y0⟩ := texts_arg h0 b0
  have k1 := h1
  have lt1 : ∀ x ∈ p1, x.block < W.heap.size := by obtain ⟨m, hm⟩ := k1; exact DataW.trod_lt m _ _ _ hm
  obtain ⟨a1, rfl, rfl, rfl⟩ := open_bool Tryd.underlying4 (hval 1 4 v1 rfl rfl) h1
  simp only [List.cons_append, List.nil_append, List.append_nil, Rows.uptoBulkAll, Rows.uptoBulk] at hk
  clear hA0 hval0 hsz0 hsz
  refine (listSmall_walk hL a0 len0 cap0 z0 a1 w0 y0).mono fun e W' ⟨he, bel⟩ => ?_
  subst he
  exact ⟨_, rfl, _, _, _, [], _, [], hW', trodAll_mk1 (shut_bool Tryd.underlying4 _), (trodAll_cons_mk (Below.trod laidOut (by kernel_rfl) (of_decide_eq_true (by kernel_rfl)) k0 bel lt0) (trodAll_cons_mk (Below.trod laidOut (by kernel_rfl) (of_decide_eq_true (by kernel_rfl)) k1 bel lt1) trodAll_mk0)), rfl, bel.frame _, fun h => by cases h⟩
set_option maxRecDepth 100000 in
theorem liftedUpto (os : Os) (started : os.Started) (H : Type) (enc : TypeId × Value → H) (F : Stop.Interp) :
    ReturnsInHanded {} Tryd.checked os 4 .any ((Rows.OpenSpec.upto Rows.listSmallSpec).preRow enc Tryd.prog Tryd.f4 Rows.listSmallUptoRow.domain false Rows.listSmallUptoRow.laid) (((Rows.OpenSpec.upto Rows.listSmallSpec).at F).post enc Tryd.prog Tryd.f4 false true false false) := by
  obtain ⟨places, hx⟩ := reads os enc
  refine returnsInHanded_of_row (C := Tryd.checked) (s := (Rows.OpenSpec.upto Rows.listSmallSpec)) own started (by kernel_rfl) Tryd.func4
    (witness_row_at (enc := enc) (C := Tryd.checked) false (Lay.laidWorld os) #[.slice none 0 0, .bool false] rfl (by kernel_rfl) (by kernel_rfl) (by kernel_rfl)
      (OpenSpec.preRow_of_cond 8 hx (by kernel_rfl) (fun k hk => by cases hk; kernel_rfl) (by kernel_rfl) (Lay.laid_met os _))) ?_
  intro W base args ds gs before hval hW _ hcond hsz hL hS _
  exact contract H enc W base args ds gs before hval hW (hcond _ rfl) hsz (Lay.laid_of hL hS)
theorem saidUpto : Rows.ListSmallUptoSaid :=
  OpenClaim.holds_of_cond 4 Tryd.f4 rfl rfl rfl rfl rfl rfl rfl ⟨rfl, rfl, rfl, rfl, rfl⟩ rfl rfl rfl rfl rfl (by kernel_rfl) Tryd.func4 (by kernel_rfl)
    (of_decide_eq_true (by kernel_rfl)) (by unfold Func.isWrapper; first | (rw [if_pos (by decide +kernel)]; kernel_rfl) | (rw [if_neg (by decide +kernel)]; exact ⟨rfl, rfl⟩))
    (fun os started H enc _ F => by rw [OpenClaim.pre_eq_preRow]; exact liftedUpto os started H enc F)
theorem plain (f : FuncId) (fn : Func) (hf : Tryd.pinned.checked.prog.funcNamed "stillroom/stillroomlaw12.ListSmall" = some f) (hfn : Tryd.pinned.checked.prog.funcs[f]? = some fn) :
    true = Tryd.pinned.checked.prog.looks [] ∧ ∀ (j : Nat) t, fn.params[j]? = some t → Tryd.pinned.checked.prog.wantsStandIn t = false := by
  obtain rfl : f = 4 := Option.some.inj ((show Tryd.prog.funcNamed "stillroom/stillroomlaw12.ListSmall" = some 4 by kernel_rfl).symm.trans hf) |>.symm
  obtain rfl : fn = Tryd.f4 := (Option.some.inj (Tryd.func4.symm.trans hfn)).symm
  refine ⟨by kernel_rfl, fun j t ht => ?_⟩
  rw [Tryd.params4] at ht
  have ht := Array.mem_of_getElem? ht
  have all : ∀ t ∈ (#[22, 4] : Array TypeId), Tryd.prog.wantsStandIn t = false := by
    intro t ht
    simp only [List.mem_toArray, List.mem_cons, List.not_mem_nil, or_false] at ht
    rcases ht with rfl | rfl <;> kernel_rfl
  exact all t ht
end Go.Proofs.YtlecnlnpgghmbaaDoor.listSmallRow
namespace Go.Proofs.YtlecnlnpgghmbaaDoor
open Go.Proofs.YtlecnlnpgghmbaaDoor.listSmallRow in
/-- The law's card. -/
theorem listSmall_holds : Rows.ListSmallUptoCardSaid :=
  Claim7.holds_tied_plain_at .later [] _ _ _ _ saidUpto (fun _ h => by cases h) (by kernel_rfl) (fun _ h => by cases h) listSmallUpto_row_tie rfl ⟨rfl, rfl⟩ (by kernel_rfl) rfl plain (by kernel_rfl)
end Go.Proofs.YtlecnlnpgghmbaaDoor
