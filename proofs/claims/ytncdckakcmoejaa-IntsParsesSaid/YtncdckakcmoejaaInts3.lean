/- The walks of the layer ints, part 3: widen. -/
import Derived.Test.YtncdckakcmoejaaInts2
import Derived.Test.YtncdckakcmoejaaSlc
namespace Go.Proofs.Ytncdckakcmoejaa
set_option linter.unusedVariables false
set_option linter.unusedSimpArgs false
open Go.RowKit
theorem info_u8 : (Try.prog.info? 5).map (fun i => (i.zero, i.size, i.bytes)) = some (some (.int .u8 0), 1, 1) := by kernel_rfl

/-- So many zero bytes. -/
def zeroRow (n : Nat) : Array Value := (List.replicate n (.int .u8 0)).toArray
theorem zeroRow_size (n : Nat) : (zeroRow n).size = n := by simp [zeroRow]
/-- The piece while numbers are written in more bytes: k of them are. -/
def bufW (L : List Int) (W k : Nat) : List Value := (leN 4 W ++ leN 4 L.length ++ (L.take k).flatMap (encW W)).map u8v ++ List.replicate ((L.length - k) * W) (.int .u8 0)
theorem bufW_length (L : List Int) (W k : Nat) (hk : k ≤ L.length) : (bufW L W k).length = 8 + L.length * W := by
  simp only [bufW, List.length_append, List.length_map, leN_length, flat_length, List.length_take, List.length_replicate, Nat.min_eq_left hk]
  have : L.length * W = k * W + (L.length - k) * W := by rw [← Nat.add_mul]; congr 1; omega
  omega
theorem bufW_step (L : List Int) (W k : Nat) (hk : k < L.length) : wrs (bufW L W k).toArray (8 + k * W) ((encW W L[k]).map u8v) = (bufW L W (k + 1)).toArray := by
  have h0 : (L.length - k) * W = W + (L.length - (k + 1)) * W := by
    rw [show L.length - k = (L.length - (k + 1)) + 1 by omega, Nat.succ_mul]; omega
  have h1 : List.replicate ((L.length - k) * W) (Value.int .u8 0) = List.replicate W (.int .u8 0) ++ List.replicate ((L.length - (k + 1)) * W) (.int .u8 0) := by
    rw [List.replicate_append_replicate, h0]
  have h2 : ((leN 4 W ++ leN 4 L.length ++ (L.take k).flatMap (encW W)).map u8v).length = 8 + k * W := by
    simp only [List.length_append, List.length_map, leN_length, flat_length, List.length_take, Nat.min_eq_left (Nat.le_of_lt hk)]
  have h3 : L.take (k + 1) = L.take k ++ [L[k]] := by rw [List.take_succ_eq_append_getElem hk]
  have h := wrs_list ((encW W L[k]).map u8v) (List.replicate W (.int .u8 0)) ((leN 4 W ++ leN 4 L.length ++ (L.take k).flatMap (encW W)).map u8v) (List.replicate ((L.length - (k + 1)) * W) (.int .u8 0)) (by simp)
  rw [h2, ← h1] at h
  unfold bufW
  rw [h, h3]
  simp only [List.map_append, List.append_assoc, List.flatMap_append, List.flatMap_cons, List.flatMap_nil, List.append_nil]
theorem bufW_end (L : List Int) (W : Nat) : bufW L W L.length = (intsBytes L W).map u8v := by
  simp [bufW, intsBytes]
theorem bufW_zero (L : List Int) (W W' : Nat) : wrs (spliced (zeroRow (8 + L.length * W')) 0 ((leN 4 W ++ leN 4 L.length).map u8v)) 0 ((leN 4 W').map u8v) = (bufW L W' 0).toArray := by
  have h1 : spliced (zeroRow (8 + L.length * W')) 0 ((leN 4 W ++ leN 4 L.length).map u8v) = ([] ++ ((leN 4 W).map u8v ++ ((leN 4 L.length).map u8v ++ List.replicate (L.length * W') (Value.int .u8 0)))).toArray := by
    simp [spliced, zeroRow]
  rw [h1]
  have := wrs_list ((leN 4 W').map u8v) ((leN 4 W).map u8v) [] ((leN 4 L.length).map u8v ++ List.replicate (L.length * W') (Value.int .u8 0)) (by simp)
  simp only [List.length_nil] at this
  rw [this]
  simp [bufW]
/-- What the loop of widen keeps. -/
structure Widening (w0 w : World) (p g q g' cap : Nat) (cur : Array Value) (L : List Int) (W W' k : Nat) : Prop where
  old : IntsRow w q g cap cur L W
  head : w.heap[p]? = some (.cells #[.slice (some ⟨g', 0, none⟩) (8 + L.length * W') (8 + L.length * W'), .func (.func (getF W')) #[] #[], .int .i64 W'] 47 (0, 0))
  row : RowAt w g' 5 (bufW L W' k).toArray
  chg : Chg (fun b => b = p) w0 w

theorem u64_wrap (x : Int) : IntKind.u64.wrap x = ((x % 18446744073709551616).toNat : Int) := by
  simp only [IntKind.wrap_u64]; omega
set_option maxHeartbeats 1600000 in
set_option maxRecDepth 100000 in
theorem widen_row {w : World} {p g cap : Nat} {cur : Array Value} {L : List Int} {W : Nat} (h : IntsRow w p g cap cur L W) (W' : Nat) (hW' : W' = 4 ∨ W' = 8) (hlt : W < W') :
    Calls Try.prog 44 #[.pointer (some ⟨p, 0, none⟩), .int .i64 W'] w fun e w' => e = .returned (.tuple #[]) ∧
      IntsRow w' p (w.heap.size + 1) (8 + L.length * W') ((intsBytes L W').map u8v).toArray L W' ∧ Chg (fun b => b = p) w w' := by
  have few := h.few
  have hb := h.width
  obtain ⟨i0, hi, hz0, hz1, hz2⟩ := info_parts info_u8
  have hpne := h.ne
  have hp := heap_lt h.head
  have hg := h.row.lt
  obtain ⟨N, hN⟩ : ∃ N, N = 8 + L.length * W' := ⟨_, rfl⟩
  have hNb : N ≤ 800000008 := by rw [hN]; rcases hW' with rfl | rfl <;> omega
  have hN8 : 8 ≤ N := by omega
  have e1 : (8 : Int) + (L.length : Int) * (W' : Int) = N := by rw [hN]; push_cast; omega
  have hmk : ∀ w : World, (Instr.makeSlice 44 (.int .i64 N) (.int .i64 N)).run Try.prog w = .ok (.slice (some ⟨w.heap.size, 0, none⟩) N N) (w.alloc (.cells (zeroRow N) 5)) := fun w =>
    run_make_row w _ _ i0 _ 1 Try.underlying44 hi hz0 hz1 hz2 rfl N (by unfold maxLen; omega) (by omega)
  have c0 := h.cell0
  have c1 := h.cell1
  have c2 := h.cell2
  have f0 := frozen_in h.head 0
  -- behind the copy of the struct
  obtain ⟨w1, hw1⟩ : ∃ w1, w1 = w.alloc (.cells #[.slice (some ⟨g, 0, none⟩) (8 + L.length * W) cap, .func (.func (getF W)) #[] #[], .int .i64 W] 47) := ⟨_, rfl⟩
  have hsz1 : w1.heap.size = w.heap.size + 1 := by rw [hw1]; simp
  have hc1 : Chg (fun b => b = p) w w1 := by rw [hw1]; exact Chg.alloc _ _ _
  have hold : IntsRow w1 w.heap.size g cap cur L W := { h with head := by rw [hw1]; exact heap_new _ _, row := by rw [hw1]; exact h.row.old _, ne := by omega }
  have hp1 : w1.heap[p]? = some (.cells #[.slice (some ⟨g, 0, none⟩) (8 + L.length * W) cap, .func (.func (getF W)) #[] #[], .int .i64 W] 47 (0, 0)) := by rw [hw1]; exact heap_old h.head _
  -- behind the new piece
  obtain ⟨w2, hw2⟩ : ∃ w2, w2 = (w1.alloc (.cells (zeroRow N) 5)).setCell ⟨p, 0, none⟩ (.slice (some ⟨w1.heap.size, 0, none⟩) N N) := ⟨_, rfl⟩
  have hp1' := heap_old hp1 (.cells (zeroRow N) 5)
  have e2 := setCell_eq_setRow _ p 0 _ _ _ (.slice (some ⟨w1.heap.size, 0, none⟩) N N) hp1'
  rw [← hw2] at e2
  have hp2 : w2.heap[p]? = some (.cells #[.slice (some ⟨w.heap.size + 1, 0, none⟩) N N, .func (.func (getF W)) #[] #[], .int .i64 W] 47 (0, 0)) := by rw [e2, heap_setRow hp1', hsz1]; rfl
  have hg2 : RowAt w2 (w.heap.size + 1) 5 (zeroRow N) := .of (by rw [e2, setRow_other _ _ _ _ (by omega), ← hsz1]; exact heap_new _ _)
  have hc2 : Chg (fun b => b = p) w1 w2 := by rw [e2]; exact (Chg.alloc _ _ _).trans (Chg.setRow (fun b => b = p) _ _ _ rfl) fun _ h _ => h
  have hold2 := hold.chg hc2 (by omega) (by omega)
  have f1 := frozen_in hp1' 0
  have c1' := cell_in hp1' (i := 0) rfl
  have HLen1 := Lib.hid (len_row hold)
  -- behind the copy
  have hhead : ∀ j u, ((leN 4 W ++ leN 4 L.length).map u8v)[j]? = some u → ∀ k, (w2.drewN k).cell? ((⟨g, 0, none⟩ : Addr).add j) = some u := fun j u hu k => by
    have hj : j < 8 := by have := (List.getElem?_eq_some_iff.1 hu).1; simpa using this
    have := cells_of_take (w := w2.drewN k) hold2.row (intsBytes_length L W) hold2.bytes (o := 0) (xs := leN 4 W ++ leN 4 L.length) (by rw [List.drop_zero, intsBytes, List.take_left' (by simp)]) j (by simpa using hj)
    rw [Addr.add_lit]
    rw [this]
    rw [List.getElem?_map, List.getElem?_eq_getElem (by simpa using hj)] at hu
    simpa using hu
  have hcopy : ∀ k, (Builtin.copy_ #[44, 44] 3 #[.slice (some ⟨w.heap.size + 1, 0, none⟩) N N, .slice (some ⟨g, 0, none⟩) 8 cap]).run Try.prog (w2.drewN k) =
      .ok (.int .i64 ((8 : Nat) : Int)) ((w2.drewN k).setRow (w.heap.size + 1) (spliced (zeroRow N) 0 ((leN 4 W ++ leN 4 L.length).map u8v))) := fun k =>
    run_copy_row (w2.drewN k) _ _ _ _ i0 Try.underlying44 hi hz1 (w.heap.size + 1) 0 N N _ hg2 ⟨g, 0, none⟩ 8 cap 8 (by omega) (by rw [zeroRow_size]; omega) _ (by simp) (fun j u hu => hhead j u hu k) (by
      intro u hu
      obtain ⟨c, _, rfl⟩ := List.mem_map.1 hu
      rfl)
  obtain ⟨w3, hw3⟩ : ∃ w3, w3 = (w2.drewN 1).setRow (w.heap.size + 1) (spliced (zeroRow N) 0 ((leN 4 W ++ leN 4 L.length).map u8v)) := ⟨_, rfl⟩
  have hcp := hcopy 1
  rw [← hw3] at hcp
  have hp3 : w3.heap[p]? = some (.cells #[.slice (some ⟨w.heap.size + 1, 0, none⟩) N N, .func (.func (getF W)) #[] #[], .int .i64 W] 47 (0, 0)) := by rw [hw3, setRow_other _ _ _ _ (by omega)]; exact hp2
  have hg3 : RowAt w3 (w.heap.size + 1) 5 (spliced (zeroRow N) 0 ((leN 4 W ++ leN 4 L.length).map u8v)) := by rw [hw3]; exact (hg2.drewN 1).setRow (spliced_size _ _ _ (by simp [zeroRow_size]; omega))
  have hc3 : Chg (fun b => b = w.heap.size + 1) w2 w3 := by rw [hw3]; exact (Chg.drewN _ _ _).trans (Chg.setRow (fun b => b = w.heap.size + 1) _ _ _ rfl) fun _ h _ => h
  have hold3 := hold2.chg hc3 (by omega) (by omega)
  have hsz3 : (spliced (zeroRow N) 0 ((leN 4 W ++ leN 4 L.length).map u8v)).size = N := by rw [spliced_size _ _ _ (by simp [zeroRow_size]; omega), zeroRow_size]
  have HWide := Lib.hid (wide_any W' (by omega) hp3 hg3 (by omega) (by omega) (by unfold maxLen; omega) hsz3)
  have hcw : Chg (fun b => b = p) w w3 := (hc1.trans hc2 fun _ h _ => h).trans hc3 fun _ h hl => by omega
  have HCP := Lib.hid hcp
  have HH := Lib.hid h
  have HW1 := Lib.hid hw1
  have HW2 := Lib.hid hw2
  have HS1 := Lib.hid hsz1
  have HO := Lib.hid hold3
  have HC := Lib.hid hcw
  have HZ := Lib.hid (bufW_zero L W W')
  rw [← hN] at HZ
  have HN := Lib.hid hN
  have c02 := cell_in hp2 (i := 0) rfl
  have c0q := hold2.cell0
  have hle := h.le
  have hcm := h.capm
  unfold maxLen at hcm
  have c01 := cell_in hp1 (i := 0) rfl
  clear hp1' e2 hw1 hw2 hsz1 hw3 hcp hcopy hhead hp3 hg3 hsz3 hg2 hold hold2 hold3 hp1 hp2 hc1 hc2 hc3 hcw h hi hz0 hz1 hz2 hN hb few
  have HW' := Lib.hid hW'
  clear hW'
  go_enter Try.func44, Try.ntmps44
  go_wp2_with fail
  rw [← HW1.out]
  refine HLen1.out.mono ?_
  rintro e w' ⟨rfl, rfl⟩
  go_wp2_with fail
  rw [← HW2.out]
  obtain ⟨X, f, hX, hf, hF⟩ := classOf (fun x => x.cell? ⟨p, 0, none⟩ = some (.slice (some ⟨w.heap.size + 1, 0, none⟩) N N) ∧ x.cell? ⟨w.heap.size, 0, none⟩ = some (.slice (some ⟨g, 0, none⟩) (8 + L.length * W) cap)) ⟨c02, c0q⟩
  have hf1 := fun x => (hf x).1
  have hf2 := fun x => (hf x).2
  have HF := Lib.hid (fun k => hF (w2.drewN k) ⟨c02, c0q⟩)
  clear hF hf
  refine wp_region_text ⟨[7], [], 7⟩ (fun w' => ∃ x : X, w' = f x) (by kernel_rfl) (by kernel_rfl) (HF.out 1) ?_
  refine wpC_seg false (HF.out 1) 7 0 _ _ (by rfl) (by rfl) ?_
  simp only [List.take_succ_cons, List.take_zero, List.drop_succ_cons, List.drop_zero, Bool.false_eq_true, if_false, Nat.zero_add]
  repeat (go_big_quiet_step (fail))
  refine wpQuiet_nil ?_
  rw [HS1.out]
  refine wpC_value (by rfl) (by rfl) (exec_copy rfl HCP.out) (fun h => absurd h (by decide)) ?_
  refine wpC_nil ?_
  clear HF hf1 hf2 hX f
  go_wp2_with fail
  refine HWide.out.mono ?_
  rintro e w4 ⟨rfl, q1, q2, q3⟩
  have ho4 := HO.out.chg q3 (by omega) (by omega)
  rw [HZ.out] at q2
  have hc4 : Chg (fun b => b = p) w w4 := HC.out.trans q3 fun _ h hl => by omega
  have hlen4 := len_row ho4
  have HQ1 := Lib.hid q1
  have HQ2 := Lib.hid q2
  have HO4 := Lib.hid ho4
  have HC4 := Lib.hid hc4
  have HL4 := Lib.hid hlen4
  clear q1 q2 q3 ho4 hc4 hlen4
  go_wp2_with fail
  refine HL4.out.mono ?_
  rintro e w' ⟨rfl, rfl⟩
  go_wp2_with fail
  have hq : Widening w w4 p g w.heap.size (w.heap.size + 1) cap cur L W W' 0 := ⟨HO4.out, by rw [← HN.out]; exact HQ1.out, HQ2.out, HC4.out⟩
  have HK := Lib.hid hq
  clear hq HQ1 HQ2 HO4 HC4 HL4 HZ HC HO HWide HCP HLen1 HS1 HW1 HW2 c0 c1 c2 f0 f1 c1' c02 c0q c01 hle hmk
  go_loopw [5, 29] (fun _ i wr => ∃ k : Nat, k ≤ L.length ∧ i = .int .i64 k ∧ Widening w wr p g w.heap.size (w.heap.size + 1) cap cur L W W' k) (fun _ i _ => L.length - (intOf i).toNat)
  case atStart => exact ⟨0, Nat.zero_le _, rfl, HK.out⟩
  case round =>
    obtain ⟨k, hk, rfl, hw⟩ := hrel
    have HV := Lib.hid hw
    clear hw HK
    by_cases hlt : k < L.length
    · have hW := HH.out.few
      have hW' := HW'.out
      have hkW : (k + 1) * W' ≤ L.length * W' := Nat.mul_le_mul_right _ (by omega)
      have HPl := Lib.hid (place_row (i := k) HV.out.head (by omega) (by omega) (by omega) (by have := HN.out; unfold maxLen; omega))
      have HA := Lib.hid fun n => at_row (HV.out.old.chg (Chg.drewN (fun _ => False) wr n) id id) hlt
      have hs8 : 8 + k * W' + W' ≤ (bufW L W' k).toArray.size := by simp only [List.size_toArray, bufW_length _ _ _ hk]; have : (k + 1) * W' = k * W' + W' := Nat.succ_mul _ _; omega
      have HPu := Lib.hid fun c n m => put_any (w.heap.size + 1) (8 + k * W') W' c n (bufW L W' k).toArray 5 (wr.drewN m) (by omega) hs8 HV.out.row
      clear hkW hW' hs8
      go_wp2_with fail
      refine HPl.out.mono ?_
      rintro e w5 ⟨rfl, n1, rfl⟩
      go_wp2_with fail
      refine (HA.out _).mono ?_
      rintro e w6 ⟨rfl, n2, rfl⟩
      go_wp2_with fail
      rw [u64_wrap]
      refine (HPu.out _ _ _).mono ?_
      rintro e w7 ⟨rfl, rfl⟩
      go_wp2_with fail
      go_roundw
      case rel =>
        have hv := HV.out
        have hpl := heap_lt HH.out.head
        have hgl := HH.out.row.lt
        refine ⟨k + 1, by omega, by go_num, ?_⟩
        refine ⟨(hv.old.chg (Chg.drewN (fun _ => False) wr (n1 + n2)) id id).chg (Chg.setRow (fun b => b = w.heap.size + 1) _ _ _ rfl) (by omega) (by omega), ?_, ?_, ?_⟩
        · rw [setRow_other _ _ _ _ (by omega)]; exact hv.head
        · rw [← bufW_step L W' k hlt]
          exact (hv.row.drewN (n1 + n2)).setRow (by simp)
        · exact (hv.chg.trans (Chg.drewN _ _ _) fun _ h _ => h).trans (Chg.setRow (fun b => b = w.heap.size + 1) _ _ _ rfl) fun _ h hl => by omega
      case measure => simp [intOf]; omega
    · have : k = L.length := by omega
      subst this
      go_wp2_with fail
      go_end0
      have hv := HV.out
      have hpl := heap_lt HH.out.head
      have hgl := HH.out.row.lt
      refine ⟨rfl, ?_, hv.chg⟩
      have hN := HN.out
      refine ⟨hv.head, by rw [← bufW_end]; exact hv.row, by omega, ?_, Nat.le_refl _, by unfold maxLen; omega, ?_, by have := HW'.out; omega, ?_, HH.out.few⟩
      · simp only [List.size_toArray, List.length_map, intsBytes_length]
      · rw [List.take_of_length_le (by simp only [List.length_map, intsBytes_length]; omega)]
      · intro x hx
        have := HH.out.fits x hx
        have := HW'.out
        unfold fitsW at *
        omega
end Go.Proofs.Ytncdckakcmoejaa
