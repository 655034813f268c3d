/- stillroomref06: Parse. -/
import Derived.Test.YtncdckakcmoejaaRef9
namespace Go.Proofs.Ytncdckakcmoejaa
set_option linter.unusedVariables false
set_option linter.unusedSimpArgs false
open Go.RowKit
theorem extract_list (s : ByteArray) (a b : Nat) : (s.extract a b).data.toList = (s.data.toList.drop a).take (b - a) := by
  cases s with
  | mk d =>
    have h := ByteArray.extract_mk d.toList a b
    rw [Array.toArray_toList] at h
    rw [h]
def RefParsed (bs : List UInt8) (w : World) (e : Ending) (w' : World) : Prop :=
  Below w.heap.size w w' ∧ match parseL bs with
    | none => e = .returned (.tuple #[.pointer none, .int .i64 4])
    | some (L, W) => ∃ r G, e = .returned (.tuple #[.pointer (some ⟨r, 0, none⟩), .int .i64 0]) ∧ RefF w' r G L W ∧ (∀ k, G k → w.heap.size ≤ k)
set_option maxHeartbeats 3200000 in
set_option maxRecDepth 100000 in
theorem refParse (s : ByteArray) (w : World) (hs : s.size ≤ 100000000) : Calls Try.prog 36 #[.string s] w (RefParsed s.data.toList w) := by
  have hlen : s.data.toList.length = s.size := by simp
  obtain ⟨bs, hbs⟩ : ∃ bs, bs = s.data.toList := ⟨_, rfl⟩
  by_cases h8 : s.size < 8
  · have hp : parseL s.data.toList = none := by rw [parseL, if_pos (.inl (by omega))]
    have hd8 : decide ((s.size : Int) < 8) = true := by simp; omega
    have HP := Lib.hid hp
    clear hp hbs hlen
    go_enter Try.func36, Try.ntmps36
    go_wp2_with fail
    go_ret2
    rw [RefParsed, HP.out]
    exact ⟨Below.refl _ _, rfl⟩
  · have hd8 : decide ((s.size : Int) < 8) = false := by simp; omega
    have hx1 : (s.extract 0 4).data.toList = bs.take 4 := by rw [extract_list, hbs]; rfl
    have hx2 : (s.extract 4 8).data.toList = (bs.drop 4).take 4 := by rw [extract_list, hbs]
    have hN1 := refNumber (s.extract 0 4) w (by simp; omega)
    have hN2 := refNumber (s.extract 4 8) w (by simp; omega)
    rw [hx1] at hN1
    rw [hx2] at hN2
    obtain ⟨W, hW⟩ : ∃ W, W = lowN (bs.take 4) := ⟨_, rfl⟩
    obtain ⟨n, hn⟩ : ∃ n, n = lowN ((bs.drop 4).take 4) := ⟨_, rfl⟩
    have hlu : W < 4294967296 := by
      have := lowN_lt (bs.take 4)
      rw [show (bs.take 4).length = 4 by simp [hbs]; omega] at this
      rw [hW]; exact this
    have hln : n < 4294967296 := by
      have := lowN_lt ((bs.drop 4).take 4)
      rw [show ((bs.drop 4).take 4).length = 4 by simp [hbs]; omega] at this
      rw [hn]; exact this
    rw [← hW] at hN1
    rw [← hn] at hN2
    have HN1 := Lib.hid hN1
    have HN2 := Lib.hid hN2
    have HB := Lib.hid (And.intro hbs (And.intro hlen (And.intro hW hn)))
    clear hx1 hx2 hN1 hN2 hbs hlen hW hn
    by_cases hw : W = 2 ∨ W = 4 ∨ W = 8
    · by_cases hsz : s.size = 8 + n * W
      · obtain ⟨hbs, hlen, hW, hn⟩ := HB.out
        have hpl : parseL s.data.toList = if (decR (bs.drop 8) W n).Pairwise (· < ·) then some (decR (bs.drop 8) W n, W) else none := by
          rw [← hbs, parseL, ← hW, ← hn, hbs, hlen]
          by_cases hpw : (decR (s.data.toList.drop 8) W n).Pairwise (· < ·)
          · rw [if_neg (fun h => h.elim (fun h => by omega) fun h => h.elim (fun h => h hw) fun h => h.elim (fun h => h hsz) fun h => h hpw), if_pos hpw]
          · rw [if_neg hpw, if_pos (.inr (.inr (.inr hpw)))]
        have hD : ∀ k, k < n → (decR (bs.drop 8) W n).getD k 0 = decW W (lowN ((bs.drop (8 + k * W)).take W)) := fun k hk => by
          simp [decR, List.getD, hk]
        have hDl := decR_length (bs.drop 8) W n
        generalize decR (bs.drop 8) W n = D at *
        have hS : ∀ k, k < n → ∀ w, Calls Try.prog 64 #[.string (s.extract (8 + k * W) (8 + k * W + W))] w fun e w' => e = .returned (.int .i64 (D.getD k 0)) ∧ w = w' := fun k hk w => by
          have hk2 : (k + 1) * W ≤ n * W := Nat.mul_le_mul_right _ hk
          rw [Nat.succ_mul] at hk2
          have hsz2 : (s.extract (8 + k * W) (8 + k * W + W)).size = W := by simp; omega
          have := refSigned (s.extract (8 + k * W) (8 + k * W + W)) w (by rw [hsz2]; exact hw)
          rw [hsz2, extract_list, ← hbs, Nat.add_sub_cancel_left, ← hD k hk] at this
          exact this
        have HS := Lib.hid hS
        have HPl := Lib.hid hpl
        have hmul : (W : Int) * (n : Int) = ((n * W : Nat) : Int) := by rw [Int.natCast_mul, Int.mul_comm]
        have hnw : n * W ≤ n * 8 := Nat.mul_le_mul_left _ (by omega)
        have hne : ((s.size : Int) - 8 != ((n * W : Nat) : Int)) = false := by
          simp only [bne_eq_false_iff_eq]; omega
        clear hpl hD hbs hlen hW hn hS
        obtain ⟨w1, hw1⟩ : ∃ w1, w1 = w.alloc (.cells #[.slice none 0 0, .int .i64 W] 81) := ⟨_, rfl⟩
        have HW1 := Lib.hid hw1
        have R1 : RefF w1 w.heap.size (fun k => k = w.heap.size) (D.take 0) W := by rw [hw1]; exact ⟨.slice none 0 0, heap_new _ _, SliceIs.nil _ _ _, fun k => by simp [vblock]⟩
        have b1 : Below w.heap.size w w1 := by rw [hw1]; exact (Below.refl _ _).alloc (Nat.le_refl _) _
        have HI1 := Lib.hid (And.intro R1 (And.intro b1 (show ∀ j, j = w.heap.size → w.heap.size ≤ j by omega)))
        clear R1 b1 hw1
        have hsz1 := Nat.le_of_eq hsz
        have hsz2 := Nat.le_of_eq hsz.symm
        clear hsz
        obtain ⟨V, HV⟩ : ∃ V, Hid (V = W) := ⟨_, Lib.hid rfl⟩
        rcases hw with rfl | rfl | rfl
        all_goals
          have hmul' := hmul
          simp only [Int.cast_ofNat_Int] at hmul'
          rw [← hmul'] at hne
          clear hmul hmul'
          go_enter Try.func36, Try.ntmps36
          go_wp2_with fail
          refine HN1.out.mono ?_
          rintro e w' ⟨rfl, rfl⟩
          go_wp2_with fail
          refine HN2.out.mono ?_
          rintro e w' ⟨rfl, rfl⟩
          go_wp2_with fail
          go_loopw [7] (fun at_ wr => ∃ (k : Nat) (G : Nat → Prop), k ≤ n ∧ at_ = .int .i64 ((8 + k * V : Nat) : Int) ∧ Hid (RefF wr w.heap.size G (D.take k) V ∧ Below w.heap.size w wr ∧ ∀ j, G j → w.heap.size ≤ j) ∧ Hid (∀ j, 1 ≤ j → j < k → D.getD (j - 1) 0 < D.getD j 0)) (fun at_ _ => s.size - (intOf at_).toNat)
          case atStart => exact ⟨0, _, Nat.zero_le _, by simp, by have h := HI1.out; rw [HW1.out] at h; rw [HV.out]; exact Lib.hid h, Lib.hid fun j h1 h2 => by omega⟩
          case round =>
            obtain ⟨k, G, hk, rfl, hI, hJ⟩ := hrel
            obtain ⟨U, HU⟩ : ∃ U, Hid (U = V) := ⟨_, Lib.hid rfl⟩
            have hv := HV.out
            subst hv
            by_cases hlt : k < n
            · have HSk := Lib.hid (HS.out k hlt)
              obtain ⟨⟨v, h1, h2, h3⟩, hb, hG⟩ := hI.out
              have hkl : (D.take k).length = k := by simp; omega
              rw [hkl] at h2
              obtain ⟨a, cap, hv, h4⟩ := h2.arg
              subst hv
              have c0 := cell_in h1 (i := 0) rfl
              have c1 := cell_in h1 (i := 1) rfl
              have f0 := frozen_in h1 0
              have hlc := h4.1
              have hdk : D.take (k + 1) = D.take k ++ [D.getD k 0] := by rw [List.take_succ_eq_append_getElem (by omega)]; simp [List.getD, show k < D.length by omega]
              have hno : ∀ j, k = j + 1 → D.getD k 0 ≤ D.getD j 0 → parseL s.data.toList = none := fun j hj hle => by
                rw [HPl.out, if_neg]
                intro hp
                have := List.pairwise_iff_getElem.1 hp j k (by omega) (by omega) (by omega)
                have e1 : D.getD k 0 = D[k] := by simp [List.getD, show k < D.length by omega]
                have e2 : D.getD j 0 = D[j] := by simp [List.getD, show j < D.length by omega]
                omega
              have hnx : (∀ j, k = j + 1 → D.getD j 0 < D.getD k 0) → ∀ j, 1 ≤ j → j < k + 1 → D.getD (j - 1) 0 < D.getD j 0 := fun h j h1 h2 => by
                by_cases hj : j = k
                · subst hj; exact h (j - 1) (by omega)
                · exact hJ.out j h1 (by omega)
              have hcl : ∀ j, k = j + 1 → ∃ b o, a = some ⟨b, o, none⟩ ∧ wr.cell? ⟨b, o + j, none⟩ = some (.int .i64 (D.getD j 0)) := fun j hj => by
                obtain ⟨b, o, ha, hc⟩ := h4.2.resolve_left (by omega)
                refine ⟨b, o, ha, (hc j (by omega)).trans ?_⟩
                simp [List.getD, i64v, show j < D.length by omega, show j < k by omega, List.getElem?_take_of_lt (show j < k by omega)]
              have HNo := Lib.hid hno
              have HNx := Lib.hid hnx
              have HDk := Lib.hid hdk
              obtain ⟨v2, w2, r2, s2, b2⟩ := append64 (h2.chg (Chg.drew (fun _ => False) wr) fun _ _ => id) (show w.heap.size + 1 ≤ wr.drew.heap.size from heap_lt h1) (D.getD k 0) (by omega)
              rw [← hdk] at s2
              obtain ⟨a2, cap2, hv2, _⟩ := s2.arg
              subst hv2
              have hh2 : w2.heap[w.heap.size]? = some (.cells #[.slice a k cap, .int .i64 _] 81 (0, 0)) := (b2.block _ (Nat.lt_succ_self _)).trans h1
              have c02 := cell_in hh2 (i := 0) rfl
              have c12 := cell_in hh2 (i := 1) rfl
              have f02 := frozen_in hh2 0
              have HR2 := Lib.hid r2
              have hnew : RefF (w2.setCell ⟨w.heap.size, 0, none⟩ (.slice a2 (k + 1) cap2)) w.heap.size (fun i => i = w.heap.size ∨ vblock (.slice a2 (k + 1) cap2) = some i) (D.take (k + 1)) U ∧ Below w.heap.size w (w2.setCell ⟨w.heap.size, 0, none⟩ (.slice a2 (k + 1) cap2)) ∧ ∀ i, (i = w.heap.size ∨ vblock (.slice a2 (k + 1) cap2) = some i) → w.heap.size ≤ i := by
                rw [HU.out]
                refine ⟨⟨.slice a2 (k + 1) cap2, setCell_head hh2 0 _, ?_, fun _ => Iff.rfl⟩, ?_, ?_⟩
                · rw [show (D.take (k + 1)).length = k + 1 by simp; omega]
                  exact s2.chg (Chg.setCell (fun i => i = w.heap.size) w2 ⟨w.heap.size, 0, none⟩ _ rfl) fun i hi he => by
                    have := (s2.block_lt hi).1
                    omega
                · exact belowChg ((belowN hb 1).trans (b2.mono (Nat.le_succ _))) (Chg.setCell (fun i => i = w.heap.size) w2 ⟨w.heap.size, 0, none⟩ _ rfl) (heap_lt hh2 |> Nat.le_of_lt) fun i hi _ => by omega
                · rintro i (rfl | hi)
                  · exact Nat.le_refl _
                  · have := (s2.block_lt hi).1
                    omega
              rw [HU.out] at hnew
              have HNew := Lib.hid hnew
              clear hnew r2 s2 b2 hh2
              have HH1 := Lib.hid (And.intro h1 (And.intro h2 (And.intro h3 (And.intro hb hG))))
              clear hno hnx hdk hJ h1 h2 h3 hb hG hI h4
              generalize D.getD k 0 = x at *
              rcases k with _ | j
              · clear hcl
                go_wp2_with fail
                refine (HSk.out _).mono ?_
                rintro e w' ⟨rfl, rfl⟩
                go_wp2_with fail
                obtain ⟨X1, f, hX1, hf, hF⟩ := classOf (fun x => x.cell? ⟨w.heap.size, 0, none⟩ = some (.slice a 0 cap)) c0
                have HF := Lib.hid (hF wr.drew c0)
                clear hF
                refine wp_region_text ⟨[], [], 22⟩ (fun w' => ∃ x : X1, w' = f x) (by kernel_rfl) (by kernel_rfl) HF.out ?_
                refine wpC_seg false (HF.out) 22 0 _ _ (by rfl) (by rfl) ?_
                simp only [List.take_succ_cons, List.take_zero, List.drop_succ_cons, List.drop_zero, Bool.false_eq_true, if_false, Nat.zero_add, Nat.reduceAdd]
                repeat (go_big_quiet_step (fail))
                refine wpQuiet_nil ?_
                refine wpC_nil ?_
                clear hf hX1 HF
                go_wp2_with (at_builtin; refine wpList_append_run rfl rfl HR2.out ?_)
                go_roundw
                case rel => exact ⟨0 + 1, _, by omega, by go_num, HNew, Lib.hid (HNx.out fun j hj => by omega)⟩
                case measure => simp [intOf]; omega
              · obtain ⟨b, o, ha, hcell⟩ := hcl j rfl
                subst ha
                clear hcl
                have HNo2 := Lib.hid (HNo.out j rfl)
                have HNx2 := Lib.hid (fun h => HNx.out fun j' hj' => by cases hj'; exact h)
                clear HNo HNx
                generalize D.getD j 0 = y at *
                rcases Bool.eq_false_or_eq_true (decide (x ≤ y)) with hc | hc
                · go_wp2_with fail
                  refine (HSk.out _).mono ?_
                  rintro e w' ⟨rfl, rfl⟩
                  go_wp2_with fail
                  obtain ⟨X1, f, hX1, hf, hF⟩ := classOf (fun x => x.cell? ⟨w.heap.size, 0, none⟩ = some (.slice (some ⟨b, o, none⟩) (j + 1) cap) ∧ x.cell? ⟨b, o + j, none⟩ = some (.int .i64 y)) ⟨c0, hcell⟩
                  have hf1 := fun x => (hf x).1
                  have hf2 := fun x => (hf x).2
                  have HF := Lib.hid (hF wr.drew ⟨c0, hcell⟩)
                  clear hF hf
                  refine wp_region_text ⟨[], [], 22⟩ (fun w' => ∃ x : X1, w' = f x) (by kernel_rfl) (by kernel_rfl) HF.out ?_
                  refine wpC_seg false (HF.out) 22 0 _ _ (by rfl) (by rfl) ?_
                  simp only [List.take_succ_cons, List.take_zero, List.drop_succ_cons, List.drop_zero, Bool.false_eq_true, if_false, Nat.zero_add, Nat.reduceAdd]
                  repeat (go_big_quiet_step (fail))
                  refine wpQuiet_nil ?_
                  refine wpC_nil ?_
                  clear hf1 hf2 hX1 HF
                  go_wp2_with fail
                  go_ret2
                  rw [RefParsed, HNo2.out (by simpa using hc)]
                  exact ⟨belowN HH1.out.2.2.2.1 1, rfl⟩
                · go_wp2_with fail
                  refine (HSk.out _).mono ?_
                  rintro e w' ⟨rfl, rfl⟩
                  go_wp2_with fail
                  obtain ⟨X1, f, hX1, hf, hF⟩ := classOf (fun x => x.cell? ⟨w.heap.size, 0, none⟩ = some (.slice (some ⟨b, o, none⟩) (j + 1) cap) ∧ x.cell? ⟨b, o + j, none⟩ = some (.int .i64 y)) ⟨c0, hcell⟩
                  have hf1 := fun x => (hf x).1
                  have hf2 := fun x => (hf x).2
                  have HF := Lib.hid (hF wr.drew ⟨c0, hcell⟩)
                  clear hF hf
                  refine wp_region_text ⟨[], [], 22⟩ (fun w' => ∃ x : X1, w' = f x) (by kernel_rfl) (by kernel_rfl) HF.out ?_
                  refine wpC_seg false (HF.out) 22 0 _ _ (by rfl) (by rfl) ?_
                  simp only [List.take_succ_cons, List.take_zero, List.drop_succ_cons, List.drop_zero, Bool.false_eq_true, if_false, Nat.zero_add, Nat.reduceAdd]
                  repeat (go_big_quiet_step (fail))
                  refine wpQuiet_nil ?_
                  refine wpC_nil ?_
                  clear hf1 hf2 hX1 HF
                  go_wp2_with (at_builtin; refine wpList_append_run rfl rfl HR2.out ?_)
                  go_roundw
                  case rel => exact ⟨j + 1 + 1, _, by omega, by go_num, HNew, Lib.hid (HNx2.out (by simpa using hc))⟩
                  case measure => simp [intOf]; omega
            · have : k = n := by omega
              subst this
              go_wp2_with fail
              go_ret2
              obtain ⟨hR, hb, hG⟩ := hI.out
              have hpw : D.Pairwise (· < ·) := adj_pairwise fun j h1 h2 => hJ.out j h1 (by omega)
              rw [← hDl, List.take_length] at hR
              rw [RefParsed, HPl.out, if_pos hpw]
              exact ⟨hb, _, G, rfl, hR, hG⟩
      · have hp : parseL s.data.toList = none := by
          obtain ⟨hbs, hlen, hW, hn⟩ := HB.out
          rw [parseL, ← hbs, ← hW, ← hn, hbs, hlen, if_pos (.inr (.inr (.inl hsz)))]
        have HP := Lib.hid hp
        have hmul : (W : Int) * (n : Int) = ((n * W : Nat) : Int) := by rw [Int.natCast_mul, Int.mul_comm]
        have hnw : n * W ≤ n * 8 := Nat.mul_le_mul_left _ (by omega)
        have hne : ((s.size : Int) - 8 != ((n * W : Nat) : Int)) = true := by
          simp only [bne_iff_ne, ne_eq]; omega
        clear hp
        generalize n * W = m at *
        rcases hw with rfl | rfl | rfl
        all_goals
          have hmul' := hmul
          simp only [Int.cast_ofNat_Int] at hmul'
          rw [← hmul'] at hne
          clear hmul hmul'
          go_enter Try.func36, Try.ntmps36
          go_wp2_with fail
          refine HN1.out.mono ?_
          rintro e w' ⟨rfl, rfl⟩
          go_wp2_with fail
          refine HN2.out.mono ?_
          rintro e w' ⟨rfl, rfl⟩
          go_wp2_with fail
          go_ret2
          rw [RefParsed, HP.out]
          exact ⟨Below.refl _ _, rfl⟩
    · have hp : parseL s.data.toList = none := by
        obtain ⟨hbs, hlen, hW, hn⟩ := HB.out
        rw [parseL, ← hbs, ← hW, if_pos (.inr (.inl hw))]
      have h2 : ((W : Int) != 2) = true := by simp; omega
      have h4 : ((W : Int) != 4) = true := by simp; omega
      have h8 : ((W : Int) != 8) = true := by simp; omega
      have HP := Lib.hid hp
      clear hp hw
      go_enter Try.func36, Try.ntmps36
      go_wp2_with fail
      refine HN1.out.mono ?_
      rintro e w' ⟨rfl, rfl⟩
      go_wp2_with fail
      refine HN2.out.mono ?_
      rintro e w' ⟨rfl, rfl⟩
      go_wp2_with fail
      go_ret2
      rw [RefParsed, HP.out]
      exact ⟨Below.refl _ _, rfl⟩
end Go.Proofs.Ytncdckakcmoejaa
