/- The law IntsPlays: the walk. -/
import Derived.Test.YtncdckakcmoejaaRef6
namespace Go.Proofs.Ytncdckakcmoejaa
set_option linter.unusedVariables false
set_option linter.unusedSimpArgs false
open Go.RowKit
set_option maxHeartbeats 3200000 in
set_option maxRecDepth 100000 in
theorem intsPlays_walk (a : Option Addr) (len cap : Nat) (zs : List (Int × Int)) (w : World)
    (h0 : zs.length = len ∧ RecRow w a len cap (fun i => .int .u8 (zs.getD i (0, 0)).1) (fun i => .int .i64 (zs.getD i (0, 0)).2) ∧ ∀ n ∈ zs, (Lit.int .u8 n.1).wf = true ∧ (Lit.int .i64 n.2).wf = true) :
    Calls Try.prog 5 #[.slice a len cap] w fun e w' => e = .returned (.bool true) ∧ Below w.heap.size w w' := by
  obtain ⟨hlen, harg, hwf⟩ := h0
  have HArg := Lib.hid harg
  have HL := Lib.hid hlen
  have HWf := Lib.hid hwf
  have hcl : len ≤ cap := harg.1
  clear hlen harg hwf
  by_cases hlong : 3000 < len
  · go_enter Try.func5, Try.ntmps5
    go_wp2_with fail
    go_ret
    exact ⟨rfl, Below.refl _ _⟩
  · have hshort : len ≤ 3000 := by omega
    have HN := Lib.hid (newF w)
    have HR := Lib.hid fun w => refNew_any w
    go_enter Try.func5, Try.ntmps5
    go_wp2_with fail
    refine HN.out.mono ?_
    rintro e w1 ⟨rfl, p1, c1⟩
    have P1 := Lib.hid p1
    have B1 := Lib.hid (belowChg (Below.refl w.heap.size w) c1 (Nat.le_refl _) fun k hk => hk.elim)
    have hs1 := c1.size
    clear p1 c1 HN
    generalize hp : w.heap.size + 1 = p at *
    go_wp2_with fail
    refine (HR.out w1).mono ?_
    rintro e w2 ⟨rfl, r2, c2⟩
    have T2 := Lib.hid (show Twin w2 p (fun k => k = p ∨ k = w.heap.size) w1.heap.size (fun k => k = w1.heap.size) [] 2 from ⟨P1.out.chg c2 fun _ _ => id, r2, fun k hk he => by
      have := P1.out.lt hk; omega⟩)
    have B2 := Lib.hid (belowChg B1.out c2 B1.out.size fun k hk => hk.elim)
    have hr1 : w.heap.size ≤ w1.heap.size := B1.out.size
    clear c2 r2 P1 B1 HR hs1
    generalize w1.heap.size = r at *
    go_wp2_with fail
    obtain ⟨w3, hw3⟩ : ∃ w3, w3 = w2.alloc (.cells #[.slice none 0 0, .nilFunc, .int .i64 0] 47) := ⟨_, rfl⟩
    have HW3 := Lib.hid hw3
    have c3 : Chg (fun _ => False) w2 w3 := by rw [hw3]; exact Chg.alloc _ _ _
    have hz3 : w3.heap[w2.heap.size]? = some (.cells #[.slice none 0 0, .nilFunc, .int .i64 0] 47 (0, 0)) := by rw [hw3]; exact heap_new _ _
    have T3 := Lib.hid (T2.out.chg c3 (fun _ _ => id) fun _ _ => id)
    have B3 := Lib.hid (belowChg B2.out c3 B2.out.size fun k hk => hk.elim)
    have hz1 : ¬ (w2.heap.size = p ∨ w2.heap.size = w.heap.size) := fun h => by have := T2.out.one.lt h; omega
    have hz2 : ¬ w2.heap.size = r := fun h => by have := T2.out.two.lt h; omega
    have HZ3 := Lib.hid (And.intro hz3 (And.intro hz1 hz2))
    have hB2 := B2.out.size
    try rw [← HW3.out]
    clear hw3 c3 hz3 T2 B2 HW3 hz1 hz2
    generalize w2.heap.size = z at *
    go_loopw [8] (fun i wr => ∃ (k : Nat) (F G : Nat → Prop) (L : List Int) (W : Nat), k ≤ len ∧ i = .int .i64 k ∧ L.length ≤ k ∧ Hid (∀ j, F j ∨ G j → w.heap.size ≤ j) ∧ Hid (Twin wr p F r G L W ∧ Below w.heap.size w wr) ∧ Hid (wr.heap[z]? = some (.cells #[.slice none 0 0, .nilFunc, .int .i64 0] 47 (0, 0)) ∧ ¬ F z ∧ ¬ G z)) (fun i _ => len - (intOf i).toNat)
    case atStart => exact ⟨0, _, _, _, _, Nat.zero_le _, rfl, Nat.le_refl _, Lib.hid (by rintro j ((rfl | rfl) | rfl) <;> omega), Lib.hid ⟨T3.out, B3.out⟩, HZ3⟩
    case round =>
      clear T3 B3 HZ3
      obtain ⟨k, F, G, L, W, hk, rfl, hLk, KF, HT, HZ⟩ := hrel
      by_cases hlt : k < len
      · obtain ⟨b, o, ha, hc⟩ := HArg.out.2.resolve_left (by omega)
        subst ha
        have hm := HWf.out (zs.getD k (0, 0)) (by simp [List.getD, show k < zs.length by have := HL.out; omega])
        have hn := bounds_i64 hm.2
        have hbw := World.block_lt_of_cell? w _ (hc k hlt).1
        have hcs : ∀ w', Below w.heap.size w w' → w'.cell? ⟨b, o + k * 2, none⟩ = some (.int .u8 (zs.getD k (0, 0)).1) ∧ w'.cell? ⟨b, o + k * 2 + 1, none⟩ = some (.int .i64 (zs.getD k (0, 0)).2) := fun w' h => by
          exact ⟨(h.cell hbw).trans (hc k hlt).1, (h.cell (p := ⟨b, o + k * 2 + 1, none⟩) hbw).trans (hc k hlt).2⟩
        have HCs := Lib.hid hcs
        obtain ⟨e0, e1⟩ := hcs wr HT.out.2
        have HA := Lib.hid (asked_any HT.out.1 (by omega) (zs.getD k (0, 0)).1 (zs.getD k (0, 0)).2 hn)
        clear hcs hc hm hn
        generalize (zs.getD k (0, 0)).1 = kd at *
        generalize (zs.getD k (0, 0)).2 = n at *
        go_wp2_with fail
        refine HA.out.mono ?_
        rintro e w4 ⟨rfl, F', G', L', W', t4, l4, k4, c4⟩
        have T4 := Lib.hid t4
        have B4 := Lib.hid (belowChg HT.out.2 c4 HT.out.2.size fun j hj _ => KF.out j hj)
        have hB4 := HT.out.2.size
        have KF4 := Lib.hid (show ∀ j, F' j ∨ G' j → w.heap.size ≤ j from fun j hj => (k4 j hj).elim (fun h => KF.out j (.inl h)) fun h => h.elim (fun h => KF.out j (.inr h)) fun h => by omega)
        have hzl := heap_lt HZ.out.1
        have HZ4 := Lib.hid (show w4.heap[z]? = some (.cells #[.slice none 0 0, .nilFunc, .int .i64 0] 47 (0, 0)) ∧ ¬ F' z ∧ ¬ G' z from
          ⟨c4.keep HZ.out.1 fun h => h.elim HZ.out.2.1 HZ.out.2.2, fun h => (k4 z (.inl h)).elim HZ.out.2.1 fun h => h.elim HZ.out.2.2 fun h => by omega, fun h => (k4 z (.inr h)).elim HZ.out.2.1 fun h => h.elim HZ.out.2.2 fun h => by omega⟩)
        have HLo := Lib.hid (looks_any t4 (by omega))
        clear t4 k4 c4 HT HZ KF HA e0 e1 hzl hB4
        go_wp2_with fail
        refine HLo.out.mono ?_
        rintro e w5 ⟨rfl, b5⟩
        have c5 := Chg.of_below (fun _ => False) b5
        have T5 := Lib.hid (T4.out.chg c5 (fun _ _ => id) fun _ _ => id)
        have B5 := Lib.hid (B4.out.trans (b5.mono B4.out.size))
        have HZ5 := Lib.hid (And.intro (c5.keep HZ4.out.1 id) HZ4.out.2)
        obtain ⟨e0, e1⟩ := HCs.out _ B5.out
        have HA := Lib.hid (asked_no (a := some ⟨z, 0, none⟩) (.inr ⟨z, rfl, HZ5.out.1⟩) kd n)
        clear b5 c5 T4 B4 HZ4 HLo
        go_wp2_with fail
        refine HA.out.mono ?_
        rintro e w6 ⟨rfl, c6⟩
        have T6 := Lib.hid (T5.out.chg c6 (fun _ _ => id) fun _ _ => id)
        have B6 := Lib.hid (belowChg B5.out c6 B5.out.size fun j hj _ => hj.elim)
        have HZ6 := Lib.hid (And.intro (c6.keep HZ5.out.1 id) HZ5.out.2)
        clear e0 e1 T5 B5 HZ5 c6 HA
        obtain ⟨e0, e1⟩ := HCs.out _ B6.out
        have HA := Lib.hid (asked_no (w := w6) (a := none) (.inl rfl) kd n)
        go_wp2_with fail
        refine HA.out.mono ?_
        rintro e w7 ⟨rfl, c7⟩
        have HT7 := Lib.hid (And.intro (T6.out.chg c7 (fun _ _ => id) fun _ _ => id) (belowChg B6.out c7 B6.out.size fun j hj _ => hj.elim))
        have HZ7 := Lib.hid (And.intro (c7.keep HZ6.out.1 id) HZ6.out.2)
        clear e0 e1 T6 B6 HZ6 c7 HA HCs
        go_wp2_with fail
        go_roundw
        case rel => exact ⟨k + 1, F', G', L', W', by omega, by go_num, by omega, KF4, HT7, HZ7⟩
        case measure => simp [intOf]; omega
      · have : k = len := by omega
        subst this
        have HLo := Lib.hid (looks_any HT.out.1 (by omega))
        go_wp2_with fail
        refine HLo.out.mono ?_
        rintro e w5 ⟨rfl, b5⟩
        have c5 := Chg.of_below (fun _ => False) b5
        have B5 := Lib.hid (HT.out.2.trans (b5.mono HT.out.2.size))
        have HA := Lib.hid (looks_no (a := some ⟨z, 0, none⟩) (.inr ⟨z, rfl, c5.keep HZ.out.1 id⟩))
        clear c5 b5 HLo
        go_wp2_with fail
        refine HA.out.mono ?_
        rintro e w' ⟨rfl, rfl⟩
        go_wp2_with fail
        refine (looks_no (a := none) (.inl rfl)).mono ?_
        rintro e w' ⟨rfl, rfl⟩
        go_wp2_with fail
        go_ret
        exact ⟨rfl, B5.out⟩
end Go.Proofs.Ytncdckakcmoejaa
