/- stillroomref06, part 4: low, Bytes. -/
import Derived.Test.YtncdckakcmoejaaRef3
namespace Go.Proofs.Ytncdckakcmoejaa
set_option linter.unusedVariables false
set_option linter.unusedSimpArgs false
open Go.RowKit
theorem append8 {w : World} {B n : Nat} {v : Value} {xs : List UInt8} (h : SliceIs w B 5 v n (xs.map u8v)) (hB : B ≤ w.heap.size) (x : UInt8) (hn : n + 1 ≤ 1000000000) :
    ∃ v' w', (Builtin.append_ #[44, 44] 44 #[v, .slice (some ⟨w.heap.size, 0, none⟩) 1 1]).run Try.prog (w.alloc (.cells #[u8v x] 5)) = .ok v' w' ∧ SliceIs w' B 5 v' (n + 1) ((xs ++ [x]).map u8v) ∧ Below B w w' := by
  obtain ⟨i0, g1, g2, g3, g4⟩ := info_parts info_u8
  have := run_append_one (P := Try.prog) (t := 44) (ty := 44) Try.underlying44 g1 g2 g3 g4 rfl h hB (u8v x) rfl (by unfold maxLen; omega) (by omega)
  rw [List.map_append]
  exact this
set_option maxHeartbeats 800000 in
set_option maxRecDepth 100000 in
theorem refLow {w : World} {B : Nat} {v : Value} {xs : List UInt8} (h : SliceIs w B 5 v xs.length (xs.map u8v)) (hB : B ≤ w.heap.size) (n k : Nat) (hn : n < 18446744073709551616) (hk : k ≤ 8) (hx : xs.length ≤ 900000000) :
    Calls Try.prog 72 #[v, .int .u64 n, .int .i64 k] w fun e w' => ∃ v', e = .returned v' ∧ SliceIs w' B 5 v' (xs ++ leN k n).length ((xs ++ leN k n).map u8v) ∧ Below B w w' := by
  have HI := Lib.hid h
  clear h
  go_enter Try.func72, Try.ntmps72
  go_wp2_with fail
  go_loopw [0, 1, 7] (fun l m i wr => ∃ j : Nat, j ≤ k ∧ i = .int .i64 j ∧ m = .int .u64 ((n / 256 ^ j : Nat) : Int) ∧ Hid (SliceIs wr B 5 l (xs ++ leN j n).length ((xs ++ leN j n).map u8v) ∧ Below B w wr)) (fun _ _ i _ => k - (intOf i).toNat)
  case atStart => exact ⟨0, Nat.zero_le _, rfl, by simp, Lib.hid ⟨by simpa [leN] using HI.out, Below.refl _ _⟩⟩
  case round =>
    obtain ⟨j, hj, rfl, rfl, hI⟩ := hrel
    by_cases hlt : j < k
    · obtain ⟨v2, w2, r2, s2, b2⟩ := append8 hI.out.1 (Nat.le_trans hB hI.out.2.size) (UInt8.ofNat (n / 256 ^ j)) (by simp; omega)
      rw [show (xs ++ leN j n).length + 1 = (xs ++ leN (j + 1) n).length by simp; omega, List.append_assoc, ← leN_snoc] at s2
      have HNw := Lib.hid (And.intro s2 (hI.out.2.trans b2))
      rw [u8v_of] at r2
      have HR2 := Lib.hid r2
      have hdiv : n / 256 ^ (j + 1) = n / 256 ^ j / 256 := by rw [Nat.pow_succ, Nat.div_div_eq_div_mul]
      have hle : n / 256 ^ j < 18446744073709551616 := Nat.lt_of_le_of_lt (Nat.div_le_self _ _) hn
      rw [show j + 1 = j + 1 from rfl] at hdiv
      have HD := Lib.hid hdiv
      clear s2 b2 r2 hdiv hI
      generalize n / 256 ^ j = q at *
      go_wp2_with (at_builtin; refine wpList_append_run rfl rfl HR2.out ?_)
      go_roundw
      case rel => exact ⟨j + 1, by omega, by go_num, by rw [HD.out]; go_num, HNw⟩
      case measure => simp [intOf]; omega
    · have : j = k := by omega
      subst this
      go_wp2_with fail
      go_ret
      exact ⟨_, rfl, hI.out⟩
theorem run_string_local {w : World} {B n : Nat} {v : Value} {xs : List UInt8} (h : SliceIs w B 5 v n (xs.map u8v)) (hn : 0 < n) :
    (convert 44 9 v).run Try.prog w = .ok (.string (strOf xs)) w := by
  rcases h.2 with ⟨_, rfl⟩ | ⟨g, cap, cur, rfl, h2, h3, h4, h5, h6, h7⟩
  · omega
  · have hl : xs.length = n := by simpa using h.1
    exact run_string_row (P := Try.prog) w 44 9 5 Try.underlying44 Try.underlying5 Try.underlying9 g 0 n cap xs hl
      (cells_of_take h3 hl h7 (o := 0) (by rw [List.drop_zero, List.take_length]))
set_option maxHeartbeats 1600000 in
set_option maxRecDepth 100000 in
theorem refBytes {w : World} {r : Nat} {G : Nat → Prop} {L : List Int} {W : Nat} (h : RefF w r G L W) (hW : W ≤ 8) (hm : L.length ≤ 100000000) (hr : ∀ x ∈ L, -9223372036854775808 ≤ x ∧ x ≤ 9223372036854775807) :
    Calls Try.prog 55 #[.pointer (some ⟨r, 0, none⟩)] w fun e w' => e = .returned (.string (strOf (intsBytes L W))) ∧ Below w.heap.size w w' := by
  obtain ⟨v, h1, h2, h3⟩ := h
  obtain ⟨a, cap, hv, h4⟩ := h2.arg
  subst hv
  have c0 := cell_in h1 (i := 0) rfl
  have c1 := cell_in h1 (i := 1) rfl
  have hrl := heap_lt h1
  have hlc := h4.1
  have HA := Lib.hid h4
  have HR := Lib.hid hr
  clear h1 h2 h3 h4 hr
  have HL1 := Lib.hid (refLow (SliceIs.nil w w.heap.size 5) (Nat.le_refl _) W 4 (by omega) (by omega) (xs := []) (by simp))
  go_enter Try.func55, Try.ntmps55
  go_wp2_with fail
  refine HL1.out.mono ?_
  rintro e w1 ⟨v1, rfl, s1, b1⟩
  have c01 : w1.cell? ⟨r, 0, none⟩ = some (.slice a L.length cap) := by rw [b1.cell hrl]; exact c0
  have HL2 := Lib.hid (refLow s1 b1.size L.length 4 (by omega) (by omega) (by simp))
  have B1 := Lib.hid b1
  clear s1 b1 HL1
  go_wp2_with fail
  refine HL2.out.mono ?_
  rintro e w2 ⟨v2, rfl, s2, b2⟩
  have HI2 := Lib.hid (And.intro s2 (B1.out.trans b2))
  clear s2 b2 B1 HL2 c01
  go_wp2_with fail
  go_loopw [3, 4] (fun l i wr => ∃ k : Nat, k ≤ L.length ∧ i = .int .i64 k ∧ Hid (SliceIs wr w.heap.size 5 l (leN 4 W ++ leN 4 L.length ++ (L.take k).flatMap (encW W)).length ((leN 4 W ++ leN 4 L.length ++ (L.take k).flatMap (encW W)).map u8v) ∧ Below w.heap.size w wr)) (fun _ i _ => L.length - (intOf i).toNat)
  case atStart => exact ⟨0, Nat.zero_le _, rfl, Lib.hid (by simpa using HI2.out)⟩
  case round =>
    obtain ⟨k, hk, rfl, hI⟩ := hrel
    have c0' : wr.cell? ⟨r, 0, none⟩ = some (.slice a L.length cap) := by rw [hI.out.2.cell hrl]; exact c0
    have c1' : wr.cell? ⟨r, 1, none⟩ = some (.int .i64 W) := by rw [hI.out.2.cell hrl]; exact c1
    by_cases hlt : k < L.length
    · obtain ⟨b, o, ha, hc⟩ := HA.out.2.resolve_left (by omega)
      subst ha
      have hcell : w.cell? ⟨b, o + k, none⟩ = some (.int .i64 (L.getD k 0)) := by
        rw [hc k hlt]
        simp [List.getD, hlt, i64v]
      have hbw := World.block_lt_of_cell? w _ hcell
      have hcell' : wr.cell? ⟨b, o + k, none⟩ = some (.int .i64 (L.getD k 0)) := by rw [hI.out.2.cell hbw]; exact hcell
      have hdr : L.take (k + 1) = L.take k ++ [L.getD k 0] := by rw [List.take_succ_eq_append_getElem hlt]; simp [List.getD, hlt]
      have hfl := flat_length (L.take k) W
      have hfk : (L.take k).length * W ≤ L.length * 8 := Nat.mul_le_mul (by simp; omega) hW
      have HLk := Lib.hid (refLow (w := wr.drew) (hI.out.1.chg (Chg.drew (fun _ => False) wr) fun _ _ => id) hI.out.2.size ((L.getD k 0) % 18446744073709551616).toNat W (by omega) hW (by simp only [List.length_append, leN_length, hfl]; omega))
      have hwr := u64_wrap (L.getD k 0)
      have HE := Lib.hid (show leN W ((L.getD k 0) % 18446744073709551616).toNat = encW W (L.getD k 0) from rfl)
      have HD := Lib.hid hdr
      clear hdr hc HA hfl hfk
      generalize L.getD k 0 = y at *
      rw [← hwr] at HLk
      clear hwr
      go_wp2_with fail
      obtain ⟨X1, f, hX1, hf, hF⟩ := classOf (fun x => x.cell? ⟨r, 0, none⟩ = some (.slice (some ⟨b, o, none⟩) L.length cap) ∧ x.cell? ⟨r, 1, none⟩ = some (.int .i64 W) ∧ x.cell? ⟨b, o + k, none⟩ = some (.int .i64 y)) ⟨c0', c1', hcell'⟩
      have hf1 := fun x => (hf x).1
      have hf2 := fun x => (hf x).2.1
      have hf3 := fun x => (hf x).2.2
      have HF := Lib.hid (hF wr.drew ⟨c0', c1', hcell'⟩)
      clear hF hf
      refine wp_region_text ⟨[13], [14], 13⟩ (fun w' => ∃ x : X1, w' = f x) (by kernel_rfl) (by kernel_rfl) HF.out ?_
      refine wpC_seg false (HF.out) 13 0 _ _ (by rfl) (by rfl) ?_
      simp only [List.take_succ_cons, List.take_zero, List.drop_succ_cons, List.drop_zero, Bool.false_eq_true, if_false, Nat.zero_add, Nat.reduceAdd]
      repeat (go_big_quiet_step (fail))
      refine wpQuiet_nil ?_
      refine wpC_loud (by rfl) (by rfl) fun K hK => ?_
      go_wp2_with fail
      refine HLk.out.mono ?_
      rintro e w5 ⟨v5, rfl, s5, b5⟩
      refine hK _ _ (fun h => absurd h (by decide)) ?_
      clear hK
      rw [HE.out, List.append_assoc, show (L.take k).flatMap (encW W) ++ encW W y = (L.take (k + 1)).flatMap (encW W) by rw [HD.out, List.flatMap_append]; simp] at s5
      have HNw := Lib.hid (And.intro s5 ((belowN hI.out.2 1).trans b5))
      clear s5 b5
      refine wpC_segD 1 14 _ _ (by rfl) (by rfl) ?_
      simp only [List.take_succ_cons, List.take_zero, List.drop_succ_cons, List.drop_zero, if_true, Nat.zero_add, Nat.reduceAdd]
      repeat (go_big_quiet_step (fail))
      refine wpQuiet_nil ?_
      refine wpC_nil ?_
      clear hf1 hf2 hf3 hX1 HF hcell hcell' hI HLk
      go_wp2_with fail
      go_roundw
      case rel => exact ⟨k + 1, by omega, by go_num, HNw⟩
      case measure => simp [intOf]; omega
    · have : k = L.length := by omega
      subst this
      have hs := hI.out.1
      rw [List.take_length, show leN 4 W ++ leN 4 L.length ++ L.flatMap (encW W) = intsBytes L W from rfl] at hs
      have hcv := run_string_local hs (by rw [intsBytes_length]; omega)
      clear hs
      obtain ⟨st, hst⟩ : ∃ st, st = strOf (intsBytes L W) := ⟨_, rfl⟩
      rw [← hst] at hcv
      have HS := Lib.hid hst
      clear hst
      go_wp2_with fail
      go_ret
      exact ⟨ret1 (by rw [← HS.out]; rfl), hI.out.2⟩
end Go.Proofs.Ytncdckakcmoejaa
