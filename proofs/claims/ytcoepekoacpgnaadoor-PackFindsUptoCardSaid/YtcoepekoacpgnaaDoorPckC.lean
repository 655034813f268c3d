/- The law PackFinds: the walk. -/
import Derived.Test.YtcoepekoacpgnaaDoorPckA
namespace Go.Proofs.YtcoepekoacpgnaaDoor
set_option linter.unusedVariables false
set_option linter.unusedSimpArgs false
open Go.RowKit
theorem findP_of {L : List ByteArray} {s : ByteArray} {a e : Int} (ha : 0 ≤ a) (he : 1 ≤ e) {k : Nat} {v : Int} (h : (v = -1 ∧ L.length ≤ k ∧ ((toldP L).take k).find? (hitP s a e) = none) ∨ ∃ x, v = (x.1 : Nat) ∧ ((toldP L).take k).find? (hitP s a e) = some x) : findP L s a e = v := by
  unfold findP
  rw [if_neg (by omega)]
  rcases h with ⟨rfl, hk, hn⟩ | ⟨x, rfl, hx⟩
  · rw [List.take_of_length_le (by simpa using hk)] at hn
    rw [hn]
  · have : (toldP L).find? (hitP s a e) = some x := by
      rw [← List.take_append_drop k (toldP L), List.find?_append, hx]; rfl
    rw [this]
theorem find_next {L : List ByteArray} {s : ByteArray} {a e : Int} {k : Nat} (hk : k < L.length) (hn : ((toldP L).take k).find? (hitP s a e) = none) :
    ((toldP L).take (k + 1)).find? (hitP s a e) = if hitP s a e (k, L[k]) then some (k, L[k]) else none := by
  rw [toldP_take hk, List.find?_append, hn]
  by_cases h : hitP s a e (k, L[k]) = true
  · simp [h]
  · simp [h]
set_option maxHeartbeats 3200000 in
set_option maxRecDepth 100000 in
theorem packFinds_walk {w : World} (hl : Laid w) (a : Option Addr) (n ca : Nat) (zs : List ByteArray) (s : ByteArray) (f0 e0 : Int) (ha : zs.length = n ∧ ArgRow w a n ca fun i => .string (zs.getD i ByteArray.empty)) (ta : totalT zs ≤ 1048576)
    (hs : s.size ≤ 1048576) (hf0 : (Lit.int .u8 f0).wf = true) (he0 : (Lit.int .u8 e0).wf = true) :
    Calls Tryd.prog 4 #[.slice a n ca, .string s, .agg #[.int .u8 f0, .int .u8 e0]] w fun e w' => e = .returned (.bool true) ∧ Below w.heap.size w w' := by
  have u8n : ∀ {x : Int}, (Lit.int .u8 x).wf = true → ∃ m : Nat, x = m ∧ m < 256 := fun {x} h => by
    have hx : 0 ≤ x ∧ x ≤ 255 := by simpa [Lit.wf, IntKind.min, IntKind.max, IntKind.signed, IntKind.bits] using h
    exact ⟨x.toNat, by omega, by omega⟩
  obtain ⟨fr, rfl, hfr⟩ := u8n hf0
  obtain ⟨ev, rfl, hev⟩ := u8n he0
  clear u8n hf0 he0
  obtain ⟨w0, hw0⟩ : ∃ w0, w0 = w.alloc (.cells #[.int .u8 fr, .int .u8 ev] 31) := ⟨_, rfl⟩
  have hb0 : Below w.heap.size w w0 := by rw [hw0]; exact (Below.refl _ _).alloc (Nat.le_refl _) _
  have hh0 : w0.heap[w.heap.size]? = some (.cells #[.int .u8 fr, .int .u8 ev] 31 (0, 0)) := by rw [hw0]; exact heap_new _ _
  have HAl := Lib.hid (fun w' (hb : Below w.heap.size w w') => alive5_any (hl.below hb))
  have HA := Lib.hid (fun w' (hbe : Below w.heap.size w w') => show ArgRow w' a n ca fun i => .string (zs.getD i ByteArray.empty) from ha.2.belowT hbe)
  have HM1 := Lib.hid (fun w' (hbe : Below w.heap.size w w') => may_any w' a n ca zs ha.1 (HA.out w' hbe) ta)
  have HF1 := Lib.hid (fun w' (hbe : Below w.heap.size w w') => filled_any (hl.below hbe) a n ca zs ha.1 (HA.out w' hbe) ta)
  have HLd := Lib.hid (fun w' (hbe : Below w.heap.size w w') => hl.below hbe)
  have hn1 : n ≤ 1048576 := by have := ha.1; unfold totalT at ta; omega
  have hac := ha.2.1
  have HLn := Lib.hid ha.1
  have HTot := Lib.hid ta
  have HB0 := Lib.hid (And.intro hb0 hh0)
  have HW0 := Lib.hid hw0
  have HBy := Lib.hid (fun (w' : World) => beyond_any (w'.alloc (.cells #[.int .i64 s.size] 3)) (some ⟨w'.heap.size, 0, none⟩) 1 1 [s.size] rfl ⟨Nat.le_refl _, .inr ⟨w'.heap.size, 0, rfl, fun i hi => by
      obtain rfl : i = 0 := by omega
      exact cell_in (heap_new _ _) rfl⟩⟩ (by simp; omega) (by omega))
  rw [show decide (1048576 < [s.size].sum) = false from decide_eq_false (by simp; exact hs)] at HBy
  clear ha ta hl hw0 hb0 hh0
  by_cases h1 : n ≤ 1000
  · have d1 : decide (n ≤ 1000) = true := decide_eq_true h1
    rw [d1] at HM1
    go_enter Tryd.func4, Tryd.ntmps4
    go_wp2_with fail
    rw [← HW0.out]
    refine (HAl.out _ HB0.out.1).mono ?_
    rintro e w1 ⟨rfl, b1⟩
    have B1 := Lib.hid (HB0.out.1.trans (b1.mono HB0.out.1.size))
    have C1 := Lib.hid (show w1.heap[w.heap.size]? = some (.cells #[.int .u8 fr, .int .u8 ev] 31 (0, 0)) from (b1.block _ (heap_lt HB0.out.2)).trans HB0.out.2)
    clear b1
    go_wp2_with fail
    refine (HM1.out _ B1.out).mono ?_
    rintro e w2 ⟨rfl, b2⟩
    have B2 := Lib.hid (B1.out.trans (b2.mono B1.out.size))
    have C2 := Lib.hid ((b2.block _ (heap_lt C1.out)).trans C1.out)
    clear b2
    go_wp2_with fail
    refine (HBy.out w2).mono ?_
    rintro e w' ⟨rfl, rfl⟩
    have B3 := Lib.hid (B2.out.alloc B2.out.size (.cells #[.int .i64 s.size] 3))
    have C3 := Lib.hid (heap_old C2.out (.cells #[.int .i64 s.size] 3))
    obtain ⟨w3, hw3⟩ : ∃ w3, w2.alloc (.cells #[.int .i64 s.size] 3) = w3 := ⟨_, rfl⟩
    rw [hw3] at B3 C3 ⊢
    clear hw3
    go_wp2_with fail
    refine (HF1.out _ B3.out).mono ?_
    rintro e w4 ⟨⟨p, rfl, hp⟩, b4⟩
    have B4 := Lib.hid (B3.out.trans (b4.mono B3.out.size))
    have C4 := Lib.hid ((b4.block _ (heap_lt C3.out)).trans C3.out)
    clear b4
    cases f1 : fitsT zs with
    | false =>
      rw [f1] at hp
      clear hp
      go_wp2_with fail
      go_ret
      exact ⟨rfl, B4.out⟩
    | true =>
      obtain ⟨F, hP, hF⟩ := hp f1
      have HP := Lib.hid hP
      have c0 := cell_in C4.out (i := 0) rfl
      have c1 := cell_in C4.out (i := 1) rfl
      clear hp f1 hP
      obtain ⟨X1, fx, hX1, hfx, hFx⟩ := classOf (fun x => x.cell? ⟨w.heap.size, 0, none⟩ = some (.int .u8 fr) ∧ x.cell? ⟨w.heap.size, 1, none⟩ = some (.int .u8 ev)) (w := w4) ⟨c0, c1⟩
      have hf1 := fun x => (hfx x).1
      have hf2 := fun x => (hfx x).2
      have HFx := Lib.hid (hFx w4.drew ⟨c0, c1⟩)
      clear hfx hFx c0 c1
      go_wp2_with fail
      refine wp_region_text ⟨[], [], 9⟩ (fun w' => ∃ x : X1, w' = fx x) (by kernel_rfl) (by kernel_rfl) HFx.out ?_
      refine wpC_seg false (HFx.out) 9 0 _ _ (by rfl) (by rfl) ?_
      simp only [List.take_succ_cons, List.take_zero, List.drop_succ_cons, List.drop_zero, Bool.false_eq_true, if_false, Nat.zero_add, Nat.reduceAdd]
      repeat (go_big_quiet_step (fail))
      refine wpQuiet_nil ?_
      refine wpC_nil ?_
      clear hf1 hf2 hX1 HFx fx
      have B5 := Lib.hid (belowN B4.out 1)
      have HP5 := Lib.hid (HP.out.below (belowN (Below.refl w4.heap.size w4) 1))
      obtain ⟨w5, hw5⟩ : ∃ w5, w4.drew = w5 := ⟨_, rfl⟩
      have hw5' : w4.drewN 1 = w5 := hw5
      rw [hw5'] at B5 HP5
      rw [hw5]
      clear hw5 hw5'
      go_wp2_with fail
      go_loop [11, 12] (fun v i => ∃ k : Nat, k ≤ n ∧ i = .int .i64 k ∧ ∃ vi : Int, v = .int .i64 vi ∧ Hid ((vi = -1 ∧ ((toldP zs).take k).find? (hitP s fr (1 + (ev : Int))) = none) ∨ ∃ x, vi = (x.1 : Nat) ∧ ((toldP zs).take k).find? (hitP s fr (1 + (ev : Int))) = some x)) (fun _ i => n - (intOf i).toNat)
      case atStart => exact ⟨0, Nat.zero_le _, rfl, -1, rfl, Lib.hid (.inl ⟨rfl, by simp⟩)⟩
      case round =>
        obtain ⟨k, hk, rfl, vi, rfl, hI⟩ := hrel
        have HEnd := Lib.hid (show (0 ≤ vi ∨ n ≤ k) → (findP zs s fr (1 + (ev : Int)) == vi) = true from fun h => by
          rw [beq_iff_eq]
          refine findP_of (by omega) (by omega) (k := k) ?_
          rcases hI.out with ⟨h1, h2⟩ | ⟨x, h1, h2⟩
          · exact .inl ⟨h1, by have := HLn.out; omega, h2⟩
          · exact .inr ⟨x, h1, h2⟩)
        have HFind := Lib.hid (packFind HP5.out (HLd.out _ B5.out) s fr (1 + (ev : Int)) (by omega) (by omega))
        by_cases hlt : k < n
        · by_cases hv : vi < 0
          · have hvd : decide (vi < 0) = true := by simp; omega
            obtain rfl : vi = -1 := by
              rcases hI.out with ⟨h1, h2⟩ | ⟨x, h1, h2⟩
              · exact h1
              · omega
            have hno : ((toldP zs).take k).find? (hitP s fr (1 + (ev : Int))) = none := by
              rcases hI.out with ⟨h1, h2⟩ | ⟨x, h1, h2⟩
              · exact h2
              · omega
            have hkl : k < zs.length := by rw [HLn.out]; exact hlt
            obtain ⟨b, o, hb, hc⟩ := (HA.out _ B5.out).2.resolve_left (by omega)
            subst hb
            have hcell : w5.cell? ⟨b, o + k, none⟩ = some (.string zs[k]) := by
              have := hc k hlt
              simp only [List.getD, List.getElem?_eq_getElem hkl, Option.getD_some] at this
              exact this
            have hnx := find_next (s := s) (a := (fr : Int)) (e := 1 + (ev : Int)) hkl hno
            obtain ⟨x, hx⟩ : ∃ x, zs[k] = x := ⟨_, rfl⟩
            rw [hx] at hcell hnx
            have HNx := Lib.hid hnx
            clear hI hno hnx hc hx HEnd HFind
            have hin : -9223372036854775808 ≤ (k : Int) - (fr : Int) ∧ (k : Int) - (fr : Int) ≤ 9223372036854775807 := by omega
            have HTm := Lib.hid (show fr ≤ k → ((k : Int) - (fr : Int)).tmod (1 + (ev : Int)) = ((k : Int) - (fr : Int)) % (1 + (ev : Int)) from fun h => Int.tmod_eq_emod_of_nonneg (by omega))
            have HHit := Lib.hid (show hitP s fr (1 + (ev : Int)) (k, x) = true → Hid (((k : Int) = -1 ∧ ((toldP zs).take (k + 1)).find? (hitP s fr (1 + (ev : Int))) = none) ∨ ∃ x, (k : Int) = (x.1 : Nat) ∧ ((toldP zs).take (k + 1)).find? (hitP s fr (1 + (ev : Int))) = some x) from fun h => by
              have := HNx.out
              rw [h] at this
              exact Lib.hid (.inr ⟨(k, x), rfl, this⟩))
            have HNo := Lib.hid (show hitP s fr (1 + (ev : Int)) (k, x) = false → Hid (((-1 : Int) = -1 ∧ ((toldP zs).take (k + 1)).find? (hitP s fr (1 + (ev : Int))) = none) ∨ ∃ x, (-1 : Int) = (x.1 : Nat) ∧ ((toldP zs).take (k + 1)).find? (hitP s fr (1 + (ev : Int))) = some x) from fun h => by
              have := HNx.out
              rw [h] at this
              exact Lib.hid (.inl ⟨rfl, this⟩))
            clear HNx
            go_wp2_with fail
            all_goals go_round
            all_goals first
              | (simp [intOf]; omega)
              | exact ⟨k + 1, by omega, by go_num, k, rfl, HHit.out (by
                  unfold hitP
                  rw [IntWalk.wrap64_in _ hin, HTm.out (by omega)]
                  simp_all)⟩
              | exact ⟨k + 1, by omega, by go_num, -1, rfl, HNo.out (by
                  unfold hitP
                  rw [IntWalk.wrap64_in _ hin, Bool.and_eq_false_iff, Bool.and_eq_false_iff]
                  first
                  | exact .inl (decide_eq_false (by omega))
                  | exact .inr (.inl (by rw [beq_eq_false_iff_ne, HTm.out (by omega)]; assumption))
                  | exact .inr (.inr (by assumption))
                  | exact .inr (.inr (by show (x.toList == s.toList) = false; assumption))
                  | exact .inr (.inr (by rw [beq_eq_false_iff_ne]; assumption)))⟩
          · have hvd : decide (vi < 0) = false := by simp; omega
            have hend := HEnd.out (.inl (by omega))
            clear HEnd hI
            go_wp2_with fail
            refine HFind.out.mono ?_
            rintro e w6 ⟨rfl, b6⟩
            have B6 := Lib.hid (B5.out.trans (b6.mono B5.out.size))
            clear b6
            go_wp2_with fail
            go_ret
            exact ⟨rfl, B6.out⟩
        · have hend := HEnd.out (.inr (by omega))
          clear HEnd hI
          go_wp2_with fail
          refine HFind.out.mono ?_
          rintro e w6 ⟨rfl, b6⟩
          have B6 := Lib.hid (B5.out.trans (b6.mono B5.out.size))
          clear b6
          go_wp2_with fail
          go_ret
          exact ⟨rfl, B6.out⟩
  · have d1 : decide (n ≤ 1000) = false := decide_eq_false h1
    rw [d1] at HM1
    go_enter Tryd.func4, Tryd.ntmps4
    go_wp2_with fail
    rw [← HW0.out]
    refine (HAl.out _ HB0.out.1).mono ?_
    rintro e w1 ⟨rfl, b1⟩
    have B1 := Lib.hid (HB0.out.1.trans (b1.mono HB0.out.1.size))
    clear b1
    go_wp2_with fail
    refine (HM1.out _ B1.out).mono ?_
    rintro e w2 ⟨rfl, b2⟩
    have B2 := Lib.hid (B1.out.trans (b2.mono B1.out.size))
    clear b2
    go_wp2_with fail
    refine (HAl.out _ B2.out).mono ?_
    rintro e w3 ⟨rfl, b3⟩
    have B3 := Lib.hid (B2.out.trans (b3.mono B2.out.size))
    clear b3
    go_wp2_with fail
    go_ret
    exact ⟨rfl, B3.out⟩
end Go.Proofs.YtcoepekoacpgnaaDoor
