/- stillroomref06, part 3: Remove. -/
import Derived.Test.YtncdckakcmoejaaRef2
namespace Go.Proofs.Ytncdckakcmoejaa
set_option linter.unusedVariables false
set_option linter.unusedSimpArgs false
open Go.RowKit
set_option maxHeartbeats 3200000 in
set_option maxRecDepth 100000 in
theorem refRemove {w : World} {r : Nat} {G : Nat → Prop} {L : List Int} {W : Nat} (h : RefF w r G L W) (x : Int) (hm : L.length ≤ 100000000) :
    Calls Try.prog 50 #[.pointer (some ⟨r, 0, none⟩), .int .i64 x] w fun e w' => e = .returned (.bool (decide (x ∈ L))) ∧ ∃ G', RefF w' r G' (del L x) W ∧ Fresh w G G' ∧ Chg G w w' := by
  have HH := Lib.hid (refHas h x hm)
  have HO := Lib.hid h
  obtain ⟨v, h1, h2, h3⟩ := h
  by_cases hx : x ∈ L
  · rw [decide_eq_true hx] at HH
    have HV := Lib.hid (show decide (x ∈ L) = true by simp [hx])
    obtain ⟨a, cap, hv, h4⟩ := h2.arg
    subst hv
    have c0 := cell_in h1 (i := 0) rfl
    have hr := heap_lt h1
    have hlc := h4.1
    have HA := Lib.hid h4
    have H1 := Lib.hid h1
    have HG := Lib.hid h3
    clear h1 h2 h3 h4 hx
    go_enter Try.func50, Try.ntmps50
    go_wp2_with fail
    refine HH.out.mono ?_
    rintro e w' ⟨rfl, rfl⟩
    go_wp2_with fail
    go_loopw [5, 6] (fun l i wr => ∃ (k : Nat) (xs : List Int), k ≤ L.length ∧ i = .int .i64 k ∧ Hid (xs = del (L.take k) x) ∧ Hid (SliceIs wr w.heap.size 2 l xs.length (xs.map i64v) ∧ Below w.heap.size w wr)) (fun _ i _ => L.length - (intOf i).toNat)
    case atStart => exact ⟨0, [], Nat.zero_le _, rfl, Lib.hid rfl, Lib.hid ⟨SliceIs.nil _ _ _, Below.refl _ _⟩⟩
    case round =>
      obtain ⟨k, xs, hk, rfl, hJ, hI⟩ := hrel
      have c0' : wr.cell? ⟨r, 0, none⟩ = some (.slice a L.length cap) := by rw [hI.out.2.cell hr]; exact c0
      by_cases hlt : k < L.length
      · obtain ⟨b, o, ha, hc⟩ := HA.out.2.resolve_left (by omega)
        subst ha
        have hcell : w.cell? ⟨b, o + k, none⟩ = some (.int .i64 (L.getD k 0)) := by
          rw [hc k hlt]
          simp [List.getD, hlt, i64v]
        have hbw := World.block_lt_of_cell? w _ hcell
        have hcell' : wr.cell? ⟨b, o + k, none⟩ = some (.int .i64 (L.getD k 0)) := by rw [hI.out.2.cell hbw]; exact hcell
        have hdr : L.take (k + 1) = L.take k ++ [L.getD k 0] := by rw [List.take_succ_eq_append_getElem hlt]; simp [List.getD, hlt]
        have hxk : xs.length ≤ k := by rw [hJ.out]; exact Nat.le_trans (List.length_filter_le _ _) (by simp; omega)
        have HD := Lib.hid hdr
        clear hdr hc HA
        generalize L.getD k 0 = y at *
        rcases Bool.eq_false_or_eq_true (y != x) with hc | hc
        · obtain ⟨v2, w2, r2, s2, b2⟩ := append64 hI.out.1 hI.out.2.size y (by omega)
          rw [show xs.length + 1 = (xs ++ [y]).length by simp] at s2
          have HNw := Lib.hid (And.intro s2 (hI.out.2.trans b2))
          have HJ2 := Lib.hid (show xs ++ [y] = del (L.take (k + 1)) x by
            rw [HD.out, hJ.out, del, del, List.filter_append]
            have : y ≠ x := by simpa using hc
            simp [this])
          have HR2 := Lib.hid r2
          clear s2 b2 r2 hI hJ HD
          go_wp2_with (at_builtin; refine wpList_append_run rfl rfl HR2.out ?_)
          go_roundw
          case rel => exact ⟨k + 1, _, by omega, by go_num, HJ2, HNw⟩
          case measure => simp [intOf]; omega
        · have HJ2 := Lib.hid (show xs = del (L.take (k + 1)) x by
            rw [HD.out, hJ.out, del, del, List.filter_append]
            have : y = x := by simpa using hc
            simp [this])
          clear hJ HD
          go_wp2_with fail
          go_roundw
          case rel => exact ⟨k + 1, _, by omega, by go_num, HJ2, hI⟩
          case measure => simp [intOf]; omega
      · have : k = L.length := by omega
        subst this
        have hJ1 := hJ.out
        rw [List.take_length] at hJ1
        have hh : wr.heap[r]? = some (.cells #[.slice a L.length cap, .int .i64 W] 81 (0, 0)) := by rw [hI.out.2.block r hr]; exact H1.out
        have s2 := hI.out.1
        obtain ⟨a2, cap2, hv2, h5⟩ := s2.arg
        subst hv2
        have c02 := cell_in hh (i := 0) rfl
        have f02 := frozen_in hh 0
        have HN2 := Lib.hid (And.intro s2 hI.out.2)
        have HJ1 := Lib.hid hJ1
        have HH2 := Lib.hid hh
        clear s2 hh hI hJ hJ1 HA h5
        go_wp2_with fail
        go_ret
        rw [← HJ1.out]
        refine ⟨ret1 (by rw [HV.out]; rfl), fun k => k = r ∨ vblock (.slice a2 xs.length cap2) = some k, ⟨.slice a2 xs.length cap2, setCell_head HH2.out 0 _, ?_, fun k => Iff.rfl⟩, ?_, ?_⟩
        · refine (HN2.out.1.mono (show r + 1 ≤ w.heap.size by omega)).chg (Chg.setCell (fun k => k = r) wr ⟨r, 0, none⟩ _ rfl) fun k hk he => ?_
          have := (HN2.out.1.block_lt hk).1
          omega
        · rintro k (rfl | hk)
          · exact .inl ((HG.out k).2 (.inl rfl))
          · exact .inr (HN2.out.1.block_lt hk).1
        · exact (Chg.of_below G HN2.out.2).trans (Chg.setCell (fun k => k = r) wr ⟨r, 0, none⟩ _ rfl) fun k hk _ => by subst hk; exact (HG.out k).2 (.inl rfl)
  · rw [decide_eq_false hx] at HH
    have HV := Lib.hid (show decide (x ∈ L) = false by simp [hx])
    have HD := Lib.hid (del_not hx)
    clear h1 h2 h3 hx
    go_enter Try.func50, Try.ntmps50
    go_wp2_with fail
    refine HH.out.mono ?_
    rintro e w' ⟨rfl, rfl⟩
    go_wp2_with fail
    go_ret
    exact ⟨ret1 (by rw [HV.out]; rfl), G, by rw [HD.out]; exact HO.out, fun k hk => .inl hk, Chg.refl _ _⟩
end Go.Proofs.Ytncdckakcmoejaa
