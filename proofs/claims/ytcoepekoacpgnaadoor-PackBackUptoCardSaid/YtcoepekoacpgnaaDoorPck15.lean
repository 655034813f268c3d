/- pack.All: the iterator. -/
import Derived.Test.YtcoepekoacpgnaaDoorPck14
import Derived.RangeFuncNested
import Derived.RangeFuncBound
import Derived.RangeFuncCalls
import Derived.RangeFuncLeaves
import Derived.Shelf.Abstract
import Derived.OwnWalkIn
import Derived.TacticsInMore
import Derived.LoopNIn
import Derived.LoopIn
import Derived.ControlIn
import Derived.Deep.Cut
namespace Go.Proofs.YtcoepekoacpgnaaDoor
set_option linter.unusedVariables false
set_option linter.unusedSimpArgs false
open Go.RowKit Go.Shelf
attribute [local go_sem] Oper.semAt_some
/-- The texts with their places. -/
def toldP (L : List ByteArray) : List (Nat × ByteArray) := (List.range L.length).map fun i => (i, L.getD i ByteArray.empty)
@[simp] theorem toldP_length (L : List ByteArray) : (toldP L).length = L.length := by simp [toldP]
theorem toldP_take {L : List ByteArray} {k : Nat} (h : k < L.length) : (toldP L).take (k + 1) = (toldP L).take k ++ [(k, L[k])] := by
  rw [List.take_succ_eq_append_getElem (by simpa using h)]
  simp [toldP, List.getD, h]
def encP (x : Nat × ByteArray) : Array Value := #[.int .i64 x.1, .string x.2]
/-- What a round of a loop over All keeps: what lies below N; the piece in block g; the heads that are made behind n1. -/
structure KeepP (N n1 g : Nat) (W W' : World) : Prop where
  below : Below N W W'
  size : W.heap.size ≤ W'.heap.size
  piece : ∀ (cs : Array Value) (fz : Nat × Nat), W.heap[g]? = some (.cells cs 5 fz) → W'.heap[g]? = some (.cells cs 5 fz)
  heads : ∀ (k : Nat) (cs : Array Value) (fz : Nat × Nat), n1 ≤ k → W.heap[k]? = some (.cells cs 69 fz) → W'.heap[k]? = some (.cells cs 69 fz)
theorem KeepP.trans {N n1 g : Nat} {A B C : World} (h : KeepP N n1 g A B) (k : KeepP N n1 g B C) : KeepP N n1 g A C :=
  ⟨h.below.trans k.below, Nat.le_trans h.size k.size, fun cs fz e => k.piece cs fz (h.piece cs fz e), fun i cs fz hi e => k.heads i cs fz hi (h.heads i cs fz hi e)⟩
theorem KeepP.putObj {N n1 g : Nat} (W : World) (l : Nat) (o o' : Obj) (hN : N ≤ l) (h : W.heap[l]? = some o) (ho : o.isCells = false) : KeepP N n1 g W (W.putObj l o') := by
  have hk : ∀ (k : Nat) (cs : Array Value) (E : TypeId) (fz : Nat × Nat), W.heap[k]? = some (.cells cs E fz) → (W.putObj l o').heap[k]? = some (.cells cs E fz) := fun k cs E fz hk => by
    by_cases e : k = l
    · subst e; rw [h] at hk; cases hk; cases ho
    · exact (World.putObj_heap_other e).trans hk
  exact ⟨(Below.refl N W).grown (grownBy_putObj' W l o') (by have := heap_lt h; omega) (fun k e => by cases e; omega), by simp, fun cs fz e => hk g cs _ fz e, fun k cs fz _ e => hk k cs _ fz e⟩
theorem KeepP.of_below {N n1 g : Nat} {W W' : World} (h : Below W.heap.size W W') (hN : N ≤ W.heap.size) : KeepP N n1 g W W' :=
  ⟨h.mono hN, h.size, fun cs fz e => by rw [h.block g (heap_lt e)]; exact e, fun k cs fz _ e => by rw [h.block k (heap_lt e)]; exact e⟩
theorem packAll (w : World) (p : Nat) : Calls Tryd.prog 41 #[.pointer (some ⟨p, 0, none⟩)] w fun e w' => e = .returned (.func (.func 75) #[] #[.pointer (some ⟨w.heap.size, 0, none⟩)]) ∧
    w' = w.alloc (.cells #[.pointer (some ⟨p, 0, none⟩)] 25) := by
  go_enter Tryd.func41, Tryd.ntmps41
  go_wp2_with fail
  go_ret
  exact ⟨rfl, rfl⟩
theorem grown_of' {W W' : World} (h : Below W.heap.size W W') : W.grownBy W' none := ⟨h.os, h.tape, h.output, h.size, fun k hk _ => h.block k hk⟩
theorem PackRow.keep {w w' : World} {p g cap : Nat} {cur : Array Value} {L : List ByteArray} {N n1 : Nat} (h : PackRow w p g cap cur L) (hk : KeepP N n1 g w w') (hp : n1 ≤ p) : PackRow w' p g cap cur L := by
  refine { h with head := hk.heads p _ _ hp h.head, row := ?_ }
  obtain ⟨fz, h1, h2⟩ := h.row
  exact ⟨fz, h1, hk.piece _ _ h2⟩
set_option maxHeartbeats 6400000 in
set_option maxRecDepth 100000 in
theorem packIter1 {w0 W : World} {N n1 p bp g cap l : Nat} {cur : Array Value} {L : List ByteArray} (hl : Laid w0) (hw0 : w0.heap.size = N) (hb0 : Below N w0 W) (hr : PackRow W p g cap cur L) (hbp : W.cell? ⟨bp, 0, none⟩ = some (.pointer (some ⟨p, 0, none⟩))) (hn1 : n1 ≤ W.heap.size) (hNn : N ≤ n1)
    (J Jx : List (Nat × ByteArray) → World → Prop) (hJ : AbidesFrom W.heap.size J) {m : Nat}
    (hY : ∀ pre x W1, J pre W1 → pre ++ [x] <+: toldP L → YieldAt Fence.wide m Tryd.prog l (encP x) W1 fun e W' => (e = .returned (.bool true) ∧ J (pre ++ [x]) W' ∧ KeepP N n1 g W1 W') ∨ (e = .returned (.bool false) ∧ Jx (pre ++ [x]) W'))
    (h0 : J [] W) : Calls Tryd.prog 75 #[.func (.yield l) #[] #[], .pointer (some ⟨bp, 0, none⟩)] W fun e W' => (∃ v, e = .returned v) ∧
      ((∃ xs, xs = toldP L ∧ J xs W') ∨ ∃ pre, pre <+: toldP L ∧ Jx pre W') := by
  have HJ := Lib.hid hJ
  have HY := Lib.hid hY
  have H0 := Lib.hid h0
  have HG := Lib.hid (gone_row hr.cell0)
  have c0 := hr.cell0
  have hr0 := hr
  clear hJ hY h0
  go_enter Tryd.func75, Tryd.ntmps75
  go_wp2_with fail
  refine HG.out.mono ?_
  rintro e w' ⟨rfl, rfl⟩
  go_wp2_with fail
  obtain ⟨w1, hw1⟩ : ∃ w1, w1 = W.alloc (.cells #[.slice (some ⟨g, 0, none⟩) (sizeP L) cap] 69) := ⟨_, rfl⟩
  rw [← hw1]
  have hb1 : Below W.heap.size W w1 := by rw [hw1]; exact (Below.refl _ _).alloc (Nat.le_refl _) _
  have hr1 : PackRow w1 W.heap.size g cap cur L := { hr0 with head := by rw [hw1]; exact heap_new _ _, row := by rw [hw1]; exact hr0.row.old _ }
  have hJ1 : J [] w1 := HJ.out [] W _ none H0.out (grown_of' hb1) (fun r e => by cases e)
  have HQ := Lib.hid (And.intro hr1 (And.intro hJ1 (And.intro (show Below N w0 w1 from hb0.trans (hb1.mono (by omega))) hb1.size)))
  have HLd := Lib.hid (show ∀ w', Below N w0 w' → Laid w' from fun w' hb => hl.below (by rw [hw0]; exact hb))
  have hmany := hr0.ok.many
  have hle := hr0.le
  have hsz := hr0.ok.size
  have hcm := hr0.capm
  unfold maxLen at hcm
  obtain ⟨qb, hqb⟩ : ∃ qb, W.heap.size = qb := ⟨_, rfl⟩
  rw [hqb] at HQ ⊢
  have HNq := Lib.hid (show N ≤ qb ∧ n1 ≤ qb by omega)
  have HJ2 := Lib.hid (show ∀ pre w2 w3, qb ≤ w2.heap.size → J pre w2 → Below w2.heap.size w2 w3 → J pre w3 from fun pre w2 w3 hq h hb => HJ.out pre w2 w3 none h (grown_of' hb) (fun r e => by cases e))
  clear hw1 hb1 hr1 hJ1 hr hr0 hb0 hl hw0 hbp c0 hn1 hNn HJ H0 HG hqb
  go_loopw [4, 5] (fun i a wr => ∃ k : Nat, k ≤ L.length ∧ i = .int .i64 k ∧ a = .int .i64 (offL L k) ∧ Hid (J ((toldP L).take k) wr ∧ PackRow wr qb g cap cur L ∧ Below N w0 wr ∧ qb ≤ wr.heap.size)) (fun i _ _ => L.length - (intOf i).toNat)
  case atStart => exact ⟨0, Nat.zero_le _, rfl, by rw [offL_zero]; rfl, Lib.hid ⟨HQ.out.2.1, HQ.out.1, HQ.out.2.2⟩⟩
  case round =>
    obtain ⟨k, hk, rfl, rfl, hI⟩ := hrel
    have HL := Lib.hid (plen_row hI.out.2.1)
    have hq0 := hI.out.2.1.cell0
    by_cases hlt : k < L.length
    · have hoff := offL_succ hlt
      have hofl := (offL_lt L (k + 1)).2
      have hei := entL_length L[k] (by have := hI.out.2.1.ok.small hlt; omega)
      have hkc : ¬ cap = offL L k := by omega
      have hkle : offL L k ≤ sizeP L := by omega
      have HRd := Lib.hid (read_row hI.out.2.1 (HLd.out wr hI.out.2.2.1) hlt)
      have HSt := Lib.hid (show ∀ w2, Below wr.heap.size wr w2 → J ((toldP L).take k) w2 ∧ PackRow w2 qb g cap cur L ∧ Below N w0 w2 ∧ qb ≤ w2.heap.size from fun w2 hb =>
        ⟨HJ2.out _ _ _ hI.out.2.2.2 hI.out.1 hb, hI.out.2.1.chg (Chg.of_below (fun _ => False) hb) id id, hI.out.2.2.1.trans (hb.mono (by have := HNq.out; have := hI.out.2.2.2; omega)), Nat.le_trans hI.out.2.2.2 hb.size⟩)
      have HYk := Lib.hid (fun W1 (hj : J ((toldP L).take k) W1) => HY.out ((toldP L).take k) (k, L[k]) W1 hj (by rw [← toldP_take hlt]; exact List.take_prefix _ _))
      have HNx := Lib.hid (fun W1 (h1 : PackRow W1 qb g cap cur L) (h2 : Below N w0 W1) => next_row h1 (HLd.out W1 h2) hlt)
      have HTk := Lib.hid (toldP_take hlt)
      obtain ⟨x, hx⟩ : ∃ x, L[k] = x := ⟨_, rfl⟩
      rw [hx] at HRd HYk HTk
      rw [← HTk.out] at HYk
      clear hx hoff hei HY
      go_wp2_with fail
      refine HL.out.mono ?_
      rintro e w' ⟨rfl, rfl⟩
      go_wp2_with fail
      refine HRd.out.mono ?_
      rintro e w2 ⟨rfl, b2⟩
      have HS2 := Lib.hid (HSt.out w2 b2)
      obtain ⟨fn, tmps, assign, body, hy, hR⟩ := HYk.out w2 HS2.out.1
      have HR := Lib.hid hR
      dsimp only [encP] at hy
      clear b2 hR HSt HRd hI HYk hq0
      go_upto_region 6 with (fail)
      refine (wpIn_wide (n := m + 1)).1 ?_
      gi_wp2
      refine HR.out.mono ?_
      rintro e w3 (⟨rfl, hJ3, hk3⟩ | ⟨rfl, hx3⟩)
      · have HS3 := Lib.hid (And.intro hJ3 (And.intro (HS2.out.2.1.keep hk3 HNq.out.2) (And.intro (HS2.out.2.2.1.trans hk3.below) (Nat.le_trans HS2.out.2.2.2 hk3.size))))
        have HN3 := Lib.hid (HNx.out w3 HS3.out.2.1 HS3.out.2.2.1)
        clear hJ3 hk3 HR hy
        gi_wp2
        go_wp2_with fail
        refine HN3.out.mono ?_
        rintro e w4 ⟨rfl, b4⟩
        have HS4 := Lib.hid (show J ((toldP L).take (k + 1)) w4 ∧ PackRow w4 qb g cap cur L ∧ Below N w0 w4 ∧ qb ≤ w4.heap.size from
          ⟨HJ2.out _ _ _ HS3.out.2.2.2 HS3.out.1 b4, HS3.out.2.1.chg (Chg.of_below (fun _ => False) b4) id id, HS3.out.2.2.1.trans (b4.mono (by have := HNq.out; have := HS3.out.2.2.2; omega)), Nat.le_trans HS3.out.2.2.2 b4.size⟩)
        clear b4
        go_wp2_with fail
        go_roundw
        case rel => exact ⟨k + 1, by omega, by go_num, rfl, HS4⟩
        case measure => simp [intOf]; omega
      · have HJ6 := Lib.hid hx3
        clear hx3 HR hy
        gi_wp2
        go_wp2_with fail
        refine bodyPost_ret (results_none rfl _ _ _) rfl ?_
        exact ⟨⟨_, rfl⟩, .inr ⟨_, List.take_prefix _ _, HJ6.out⟩⟩
    · have hkn : k = L.length := by omega
      subst hkn
      have HJ6 := Lib.hid hI.out.1
      rw [List.take_of_length_le (by simp)] at HJ6
      clear hI hq0
      go_wp2_with fail
      refine HL.out.mono ?_
      rintro e w' ⟨rfl, rfl⟩
      go_wp2_with fail
      go_end0
      exact ⟨⟨_, rfl⟩, .inl ⟨_, rfl, HJ6.out⟩⟩
end Go.Proofs.YtcoepekoacpgnaaDoor
