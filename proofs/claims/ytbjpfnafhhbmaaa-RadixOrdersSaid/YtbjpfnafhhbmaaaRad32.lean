/- radix: identifier. -/
import Derived.Test.YtbjpfnafhhbmaaaRad12
import Derived.Test.YtbjpfnafhhbmaaaSln
namespace Go.Proofs.Ytbjpfnafhhbmaaa
set_option linter.unusedVariables false
set_option linter.unusedSimpArgs false
open Go.RowKit
theorem valB_snoc (l : List UInt8) (x : UInt8) : valB (l ++ [x]) = valB l * 256 + x.toNat := by
  rw [valB_append]; simp [valB]
theorem valB_lt64 (l : List UInt8) (h : l.length ≤ 8) : valB l < 18446744073709551616 := by
  have h1 := valB_lt l
  have h2 : 256 ^ l.length ≤ 256 ^ 8 := Nat.pow_le_pow_right (by omega) h
  have h3 : (256 : Nat) ^ 8 = 18446744073709551616 := by decide
  omega
theorem valStep (l : List UInt8) (k : Nat) (h : k < l.length) (h8 : l.length ≤ 8) (c : UInt8) (hc : l.getD k 0 = c) :
    bits .or .u64 (IntKind.u64.wrap ((valB (l.take k) : Nat) * 256)) (IntKind.u64.wrap (c.toNat : Int)) = ((valB (l.take (k + 1)) : Nat) : Int) := by
  have hk : l.take (k + 1) = l.take k ++ [c] := by
    rw [List.take_succ_eq_append_getElem h, ← hc]; simp [List.getD, h]
  have h2 := valB_lt64 (l.take (k + 1)) (by simp; omega)
  have h3 := c.toNat_lt
  rw [hk, valB_snoc] at h2 ⊢
  rw [IntWalk.u64_in _ ⟨by omega, by omega⟩, IntWalk.u64_in _ ⟨by omega, by omega⟩]
  have := u64_or_low (valB (l.take k)) c.toNat (by omega) (by omega)
  rw [show ((valB (l.take k) : Int) * 256) = ((valB (l.take k) * 256 : Nat) : Int) by rw [Int.natCast_mul]; rfl, this]
  congr 1; omega
set_option maxHeartbeats 3200000 in
set_option maxRecDepth 100000 in
theorem ident_any {ms seq : Nat} (h1 : ms < 18446744073709551616) (h2 : seq < 18446744073709551616) {w : World} {b o ca : Nat} (hca : 16 ≤ ca) (hc : ∀ i, i < 16 → w.cell? ⟨b, o + i, none⟩ = some (.int .u8 ((idBytes ms seq).getD i 0).toNat)) :
    Calls Try.prog 26 #[.slice (some ⟨b, o, none⟩) 16 ca] w fun e w' => e = .returned (.agg #[.int .u64 ms, .int .u64 seq]) ∧ Below w.heap.size w w' := by
  have HC := Lib.hid hc
  have HV := Lib.hid (And.intro (valB_be ms h1) (valB_be seq h2))
  have hb := World.block_lt_of_cell? w _ (hc 0 (by omega))
  clear hc h1 h2
  go_enter Try.func26, Try.ntmps26
  go_wp2_with fail
  go_loopw [4] (fun i wr => ∃ (j : Nat) (m s : Nat), j ≤ 8 ∧ i = .int .i64 j ∧ Hid (m = valB ((beB ms 8).take j) ∧ s = valB ((beB seq 8).take j)) ∧ Hid (Below w.heap.size w wr ∧ wr.heap[w.heap.size]? = some (.cells #[.int .u64 m, .int .u64 s] 25 (0, 0)))) (fun i _ => 8 - (intOf i).toNat)
  case atStart => exact ⟨0, 0, 0, by omega, rfl, Lib.hid ⟨rfl, rfl⟩, Lib.hid ⟨(Below.refl _ _).alloc (Nat.le_refl _) _, heap_new _ _⟩⟩
  case round =>
    obtain ⟨j, m, s, hj, rfl, hM, hB⟩ := hrel
    have q0 := cell_in hB.out.2 (i := 0) rfl
    have q1 := cell_in hB.out.2 (i := 1) rfl
    have fr0 := frozen_in hB.out.2 0
    by_cases hlt : j < 8
    · have hx := HC.out j (by omega)
      have hy := HC.out (j + 8) (by omega)
      have hx' : wr.cell? ⟨b, o + j, none⟩ = some (.int .u8 ((beB ms 8).getD j 0).toNat) := by
        rw [hB.out.1.cell (p := ⟨b, o + j, none⟩) hb, hx, show (idBytes ms seq).getD j 0 = (beB ms 8).getD j 0 by simp [idBytes, List.getD, List.getElem?_append_left, hlt]]
      have hy' : wr.cell? ⟨b, o + (j + 8), none⟩ = some (.int .u8 ((beB seq 8).getD j 0).toNat) := by
        rw [hB.out.1.cell (p := ⟨b, o + (j + 8), none⟩) hb, hy, show (idBytes ms seq).getD (j + 8) 0 = (beB seq 8).getD j 0 by simp [idBytes, List.getD, List.getElem?_append_right]]
      obtain ⟨c, hcx⟩ : ∃ c, (beB ms 8).getD j 0 = c := ⟨_, rfl⟩
      obtain ⟨d, hdx⟩ : ∃ d, (beB seq 8).getD j 0 = d := ⟨_, rfl⟩
      rw [hcx] at hx'
      rw [hdx] at hy'
      obtain ⟨m2, hm2⟩ : ∃ m2, valB ((beB ms 8).take (j + 1)) = m2 := ⟨_, rfl⟩
      obtain ⟨s2, hs2⟩ : ∃ s2, valB ((beB seq 8).take (j + 1)) = s2 := ⟨_, rfl⟩
      have st1 := valStep (beB ms 8) j (by simpa using hlt) (by simp) c hcx
      have st2 := valStep (beB seq 8) j (by simpa using hlt) (by simp) d hdx
      rw [← hM.out.1, hm2] at st1
      rw [← hM.out.2, hs2] at st2
      have HN := Lib.hid (And.intro hm2.symm hs2.symm)
      have HS := Lib.hid (And.intro st1 st2)
      clear hx hy hcx hdx hm2 hs2 hM st1 st2
      have hbne : b ≠ w.heap.size := by omega
      obtain ⟨w2, hw2⟩ : ∃ w2, w2 = (wr.setCell ⟨w.heap.size, 0, none⟩ (.int .u64 m2)).drew := ⟨_, rfl⟩
      have h2 : w2.heap[w.heap.size]? = some (.cells #[.int .u64 m2, .int .u64 s] 25 (0, 0)) := by rw [hw2]; exact setCell_head hB.out.2 0 _
      have hb2 : Below w.heap.size w w2 := by rw [hw2]; exact belowN (hB.out.1.setCell (Nat.le_refl _) _) 1
      have r1 := cell_in h2 (i := 1) rfl
      have g1 := frozen_in h2 1
      have hy2 : w2.cell? ⟨b, o + (j + 8), none⟩ = some (.int .u8 d.toNat) := by rw [← hy', hb2.cell (p := ⟨b, o + (j + 8), none⟩) hb, hB.out.1.cell (p := ⟨b, o + (j + 8), none⟩) hb]
      obtain ⟨w3, hw3⟩ : ∃ w3, w3 = (w2.setCell ⟨w.heap.size, 1, none⟩ (.int .u64 s2)).drew := ⟨_, rfl⟩
      have h3 : w3.heap[w.heap.size]? = some (.cells #[.int .u64 m2, .int .u64 s2] 25 (0, 0)) := by rw [hw3]; exact setCell_head h2 1 _
      have hb3 : Below w.heap.size w w3 := by rw [hw3]; exact belowN (hb2.setCell (Nat.le_refl _) _) 1
      have HW2 := Lib.hid hw2
      have HW3 := Lib.hid hw3
      have HB3 := Lib.hid (And.intro hb3 h3)
      obtain ⟨X1, f, hX1, hf, hF⟩ := classOf (fun w' => w'.cell? ⟨w.heap.size, 0, none⟩ = some (.int .u64 m) ∧ w'.cell? ⟨b, o + j, none⟩ = some (.int .u8 c.toNat)) (w := wr.drew) ⟨q0, hx'⟩
      have f1 := fun x => (hf x).1
      have f2 := fun x => (hf x).2
      have HF := Lib.hid (hF wr.drew ⟨q0, hx'⟩)
      obtain ⟨X2, f', hX2, hf', hF'⟩ := classOf (fun w' => w'.cell? ⟨w.heap.size, 1, none⟩ = some (.int .u64 s) ∧ w'.cell? ⟨b, o + (j + 8), none⟩ = some (.int .u8 d.toNat)) (w := w2.drew) ⟨r1, hy2⟩
      have f1' := fun x => (hf' x).1
      have f2' := fun x => (hf' x).2
      have HF' := Lib.hid (hF' w2.drew ⟨r1, hy2⟩)
      clear hf hF hf' hF' hw2 hw3 h2 h3 hb2 hb3 hx' hy'
      go_wp2_with fail
      refine wp_region_text ⟨[10], [], 10⟩ (fun w' => ∃ x : X1, w' = f x) (by kernel_rfl) (by kernel_rfl) HF.out ?_
      refine wpC_seg false (HF.out) 10 0 _ _ (by rfl) (by rfl) ?_
      simp only [List.take_succ_cons, List.take_zero, List.drop_succ_cons, List.drop_zero, Bool.false_eq_true, if_false, Nat.zero_add, Nat.reduceAdd]
      repeat (go_big_quiet_step (fail))
      refine wpQuiet_nil ?_
      refine wpC_loud (by rfl) (by rfl) fun K hK => ?_
      rw [HS.out.1]
      go_wp2_with fail
      rw [← HW2.out]
      refine hK _ _ (fun h => absurd h (by decide)) ?_
      refine wpC_nil ?_
      clear hK f1 f2 hX1 HF
      go_wp2_with fail
      refine wp_region_text ⟨[11], [], 11⟩ (fun w' => ∃ x : X2, w' = f' x) (by kernel_rfl) (by kernel_rfl) HF'.out ?_
      refine wpC_seg false (HF'.out) 11 0 _ _ (by rfl) (by rfl) ?_
      simp only [List.take_succ_cons, List.take_zero, List.drop_succ_cons, List.drop_zero, Bool.false_eq_true, if_false, Nat.zero_add, Nat.reduceAdd]
      repeat (go_big_quiet_step (fail))
      refine wpQuiet_nil ?_
      refine wpC_loud (by rfl) (by rfl) fun K hK => ?_
      rw [HS.out.2]
      go_wp2_with fail
      rw [← HW3.out]
      refine hK _ _ (fun h => absurd h (by decide)) ?_
      refine wpC_nil ?_
      clear hK f1' f2' hX2 HF'
      go_wp2_with fail
      go_roundw
      case rel => exact ⟨j + 1, m2, s2, by omega, by go_num, HN, Lib.hid HB3.out⟩
      case measure => simp [intOf]; omega
    · have : j = 8 := by omega
      subst this
      obtain ⟨rfl, rfl⟩ : m = ms ∧ s = seq := by
        have := hM.out
        rw [List.take_of_length_le (by simp), List.take_of_length_le (by simp), HV.out.1, HV.out.2] at this
        exact this
      have fr1 := frozen_in hB.out.2 1
      have hsz := heap_lt hB.out.2
      go_wp2_with fail
      exact bodyPost_ret (v := .agg #[.int .u64 m, .int .u64 s]) (by simp [results, Try.results26, go_sem, q0, q1]) rfl ⟨rfl, (hB.out.1.setCell (by simp) _).setCell (by simp) _⟩
end Go.Proofs.Ytbjpfnafhhbmaaa
