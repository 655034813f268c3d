/- The walks of the layer ints, part 2: what writes. -/
import Derived.Test.YtncdckakcmoejaaInts1
import Derived.Laws.EntriesVeiled
namespace Go.Proofs.Ytncdckakcmoejaa
set_option linter.unusedVariables false
set_option linter.unusedSimpArgs false
open Go.RowKit

/-- How many bytes a number wants. -/
def wantsN (x : Int) : Nat := if -32768 ≤ x ∧ x ≤ 32767 then 2 else if -2147483648 ≤ x ∧ x ≤ 2147483647 then 4 else 8
theorem w16 (x : Int) (h : -9223372036854775808 ≤ x ∧ x ≤ 9223372036854775807) : (x == wrap64 (IntKind.i16.wrap x)) = decide (-32768 ≤ x ∧ x ≤ 32767) := by
  rw [wrap64_i16, Bool.eq_iff_iff]
  simp [IntKind.wrap, IntKind.bits, IntKind.signed]; omega
theorem w32 (x : Int) (h : -9223372036854775808 ≤ x ∧ x ≤ 9223372036854775807) : (x == wrap64 (wrap32 x)) = decide (-2147483648 ≤ x ∧ x ≤ 2147483647) := by
  rw [Bool.eq_iff_iff]
  simp [wrap64, wrap32]; omega
set_option maxHeartbeats 400000 in
theorem wants_any (x : Int) (w : World) (h : -9223372036854775808 ≤ x ∧ x ≤ 9223372036854775807) :
    Calls Try.prog 43 #[.int .i64 x] w fun e w' => e = .returned (.int .i64 (wantsN x)) ∧ w = w' := by
  have q1 := w16 x h
  have q2 := w32 x h
  by_cases h2 : -32768 ≤ x ∧ x ≤ 32767
  · have HV := Lib.hid (show wantsN x = 2 by unfold wantsN; rw [if_pos h2])
    rw [decide_eq_true h2] at q1
    clear h h2 q2
    go_enter Try.func43, Try.ntmps43
    go_wp2_with fail
    go_ret
    exact ⟨ret1 (by rw [HV.out]; rfl), rfl⟩
  · rw [decide_eq_false h2] at q1
    by_cases h4 : -2147483648 ≤ x ∧ x ≤ 2147483647
    · have HV := Lib.hid (show wantsN x = 4 by unfold wantsN; rw [if_neg h2, if_pos h4])
      rw [decide_eq_true h4] at q2
      clear h h2 h4
      go_enter Try.func43, Try.ntmps43
      go_wp2_with fail
      go_ret
      exact ⟨ret1 (by rw [HV.out]; rfl), rfl⟩
    · have HV := Lib.hid (show wantsN x = 8 by unfold wantsN; rw [if_neg h2, if_neg h4])
      rw [decide_eq_false h4] at q2
      clear h h2 h4
      go_enter Try.func43, Try.ntmps43
      go_wp2_with fail
      go_ret
      exact ⟨ret1 (by rw [HV.out]; rfl), rfl⟩

set_option maxHeartbeats 1600000 in
theorem wide_any {w : World} {p g n cap : Nat} {v1 v2 : Value} {cur : Array Value} (W : Nat) (hw : W = 2 ∨ W = 4 ∨ W = 8)
    (hp : w.heap[p]? = some (.cells #[.slice (some ⟨g, 0, none⟩) n cap, v1, v2] 47 (0, 0))) (hg : RowAt w g 5 cur) (hne : g ≠ p)
    (hc : 4 ≤ cap) (hm : cap ≤ maxLen) (hsz : cur.size = cap) :
    Calls Try.prog 41 #[.pointer (some ⟨p, 0, none⟩), .int .i64 W] w fun e w' => e = .returned (.tuple #[]) ∧
      w'.heap[p]? = some (.cells #[.slice (some ⟨g, 0, none⟩) n cap, .func (.func (getF W)) #[] #[], .int .i64 W] 47 (0, 0)) ∧
      RowAt w' g 5 (wrs cur 0 ((leN 4 W).map u8v)) ∧ Chg (fun k => k = p ∨ k = g) w w' := by
  have c0 := cell_in hp (i := 0) rfl
  have c1 := cell_in hp (i := 1) rfl
  have c2 := cell_in hp (i := 2) rfl
  have f1 := frozen_in hp 1
  have f2 := frozen_in hp 2
  unfold maxLen at hm
  obtain ⟨w1, hw1⟩ : ∃ w1, w1 = (w.setCell ⟨p, 2, none⟩ (.int .i64 W)).setCell ⟨p, 1, none⟩ (.func (.func (getF W)) #[] #[]) := ⟨_, rfl⟩
  have e1 : w1 = w.setRow p #[.slice (some ⟨g, 0, none⟩) n cap, .func (.func (getF W)) #[] #[], .int .i64 W] := by
    rw [hw1, setCell_eq_setRow w p 2 _ _ _ _ hp, setRow_setCell hp]; rfl
  have hp1 : w1.heap[p]? = some (.cells #[.slice (some ⟨g, 0, none⟩) n cap, .func (.func (getF W)) #[] #[], .int .i64 W] 47 (0, 0)) := by rw [e1]; exact heap_setRow hp _
  have hg1 : RowAt w1 g 5 cur := by rw [e1]; exact hg.other _ hne
  have hc1 : Chg (fun k => k = p ∨ k = g) w w1 := by rw [e1]; exact Chg.setRow _ _ _ _ (.inl rfl)
  have HPut := Lib.hid (put_any g 0 4 cap W cur 5 w1 (by omega) (by omega) hg1)
  have HW := Lib.hid hw1
  have HP := Lib.hid hp1
  have HG := Lib.hid hg1
  have HC := Lib.hid hc1
  have HN := Lib.hid hne
  clear hp hg hw1 e1 hp1 hg1 hc1 hne hsz
  have g0 := getF_cases W
  rcases hw with rfl | rfl | rfl
  · have G := Lib.hid (g0.1 rfl)
    clear g0
    rw [show ((2 : Nat) : Int) = 2 from rfl]
    go_enter Try.func41, Try.ntmps41
    go_wp2_with fail
    have e := HW.out
    rw [G.out, show ((2 : Nat) : Int) = 2 from rfl] at e
    rw [← e]
    clear e
    refine HPut.out.mono ?_
    rintro e w' ⟨rfl, rfl⟩
    go_wp2_with fail
    go_end0
    exact ⟨rfl, by rw [setRow_other _ _ _ _ (Ne.symm HN.out)]; exact HP.out, HG.out.setRow (by simp), HC.out.trans (Chg.setRow _ _ _ _ (.inr rfl)) fun _ h _ => h⟩
  · have G := Lib.hid (g0.2.1 rfl)
    clear g0
    rw [show ((4 : Nat) : Int) = 4 from rfl]
    go_enter Try.func41, Try.ntmps41
    go_wp2_with fail
    have e := HW.out
    rw [G.out, show ((4 : Nat) : Int) = 4 from rfl] at e
    rw [← e]
    clear e
    refine HPut.out.mono ?_
    rintro e w' ⟨rfl, rfl⟩
    go_wp2_with fail
    go_end0
    exact ⟨rfl, by rw [setRow_other _ _ _ _ (Ne.symm HN.out)]; exact HP.out, HG.out.setRow (by simp), HC.out.trans (Chg.setRow _ _ _ _ (.inr rfl)) fun _ h _ => h⟩
  · have G := Lib.hid (g0.2.2 rfl)
    clear g0
    rw [show ((8 : Nat) : Int) = 8 from rfl]
    go_enter Try.func41, Try.ntmps41
    go_wp2_with fail
    have e := HW.out
    rw [G.out, show ((8 : Nat) : Int) = 8 from rfl] at e
    rw [← e]
    clear e
    refine HPut.out.mono ?_
    rintro e w' ⟨rfl, rfl⟩
    go_wp2_with fail
    go_end0
    exact ⟨rfl, by rw [setRow_other _ _ _ _ (Ne.symm HN.out)]; exact HP.out, HG.out.setRow (by simp), HC.out.trans (Chg.setRow _ _ _ _ (.inr rfl)) fun _ h _ => h⟩

set_option maxHeartbeats 800000 in
theorem count_row {w : World} {p g cap : Nat} {cur : Array Value} {L : List Int} {W : Nat} (h : IntsRow w p g cap cur L W) (d : Int) (n : Nat) (hn : (n : Int) = L.length + d) (hd : -1 ≤ d ∧ d ≤ 1) :
    Calls Try.prog 46 #[.pointer (some ⟨p, 0, none⟩), .int .i64 d] w fun e w' => e = .returned (.tuple #[]) ∧ ∃ k, w' = (w.drewN k).setRow g (wrs cur 4 ((leN 4 n).map u8v)) := by
  have c0 := h.cell0
  have few := h.few
  have hle := h.le
  have hm := h.capm
  unfold maxLen at hm
  have HLen := Lib.hid fun k => len_row (h.chg (Chg.drewN (fun _ => False) w k) id id)
  have hrow := h.row
  have hsz := h.size
  have HPut := Lib.hid fun k => put_any g 4 4 (cap - 4) n cur 5 (w.drewN k) (by omega) (by omega) hrow
  obtain ⟨d1, d2⟩ := hd
  have hn1 : (n : Int) ≤ 100000001 := by omega
  have HN := Lib.hid hn
  generalize hlen : 8 + L.length * W = len at *
  have hlen8 : 8 ≤ len := by omega
  have hnn : 0 ≤ (L.length : Int) + d := by omega
  clear hlen h hrow hsz hn
  go_enter Try.func46, Try.ntmps46
  go_wp2_with fail
  obtain ⟨X, f, hX, hf, hF⟩ := classOf (fun x => x.cell? ⟨p, 0, none⟩ = some (.slice (some ⟨g, 0, none⟩) len cap)) c0
  have HF := Lib.hid (fun k => hF (w.drewN k) c0)
  clear hF
  refine wp_region_text ⟨[6, 10], [], 10⟩ (fun w' => ∃ x : X, w' = f x) (by kernel_rfl) (by kernel_rfl) (HF.out 1) ?_
  refine wpC_seg false (HF.out 1) 6 0 _ _ (by rfl) (by rfl) ?_
  simp only [List.take_succ_cons, List.take_zero, List.drop_succ_cons, List.drop_zero, Bool.false_eq_true, if_false, Nat.zero_add]
  repeat (go_big_quiet_step (fail))
  refine wpQuiet_nil ?_
  refine wpC_loud (by rfl) (by rfl) fun K hK => ?_
  go_wp2_with fail
  refine (HLen.out 1).mono ?_
  rintro e w' ⟨rfl, rfl⟩
  refine hK _ _ (fun _ => HF.out 1) ?_
  clear hK
  refine wpC_seg false (HF.out 1) 3 7 _ _ (by rfl) (by rfl) ?_
  simp only [List.take_succ_cons, List.take_zero, List.drop_succ_cons, List.drop_zero, Bool.false_eq_true, if_false, Nat.zero_add, Nat.reduceAdd]
  repeat (go_big_quiet_step (fail))
  refine wpQuiet_nil ?_
  refine wpC_loud (by rfl) (by rfl) fun K hK => ?_
  go_wp2_with fail
  rw [← HN.out]
  refine (HPut.out 1).mono ?_
  rintro e w' ⟨rfl, rfl⟩
  refine hK _ _ (fun h => absurd h (by decide)) ?_
  clear hK
  refine wpC_nil ?_
  go_wp2_with fail
  go_end0
  exact ⟨rfl, 1, rfl⟩
end Go.Proofs.Ytncdckakcmoejaa
