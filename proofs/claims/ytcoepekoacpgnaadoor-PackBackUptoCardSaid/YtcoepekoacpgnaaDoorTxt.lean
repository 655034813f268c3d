/- The laws' helpers on texts: Beyond, TextsSize, SameTexts; opening a slice of texts. -/
import Derived.Test.YtcoepekoacpgnaaDoorCom
import Derived.WalkSpells
import Derived.WalkLawsBesides
import Derived.Lib.Hide
import Derived.Deep.QuietTactic
import Derived.BigQuiet
import Derived.ChangeSame
namespace Go.Proofs.YtcoepekoacpgnaaDoor
set_option linter.unusedVariables false
set_option linter.unusedSimpArgs false
open Go.RowKit
set_option maxHeartbeats 800000 in
theorem beyond_any (w : World) (a : Option Addr) (len cap : Nat) (zs : List Nat) (hlen : zs.length = len) (ha : ArgRow w a len cap fun i => .int .i64 (zs.getD i 0 : Nat)) (hz : ∀ x ∈ zs, x ≤ 140737488355328) (hm : len ≤ 1000000000) :
    Calls Tryd.prog 16 #[.slice a len cap] w fun e w' => e = .returned (.bool (decide (1048576 < zs.sum))) ∧ w = w' := by
  have HA := Lib.hid ha
  have HL := Lib.hid hlen
  have HZ := Lib.hid hz
  have hlc := ha.1
  clear ha hlen hz
  go_enter Tryd.func16, Tryd.ntmps16
  go_wp2_with fail
  go_loop [3, 4] (fun n i => ∃ k : Nat, k ≤ len ∧ i = .int .i64 k ∧ n = .int .i64 ((zs.take k).sum : Nat) ∧ (zs.take k).sum ≤ 1048576) (fun _ i => len - (intOf i).toNat)
  case atStart => exact ⟨0, Nat.zero_le _, rfl, rfl, by simp⟩
  case round =>
    obtain ⟨k, hk, rfl, rfl, hI⟩ := hrel
    by_cases hlt : k < len
    · obtain ⟨b, o, hb, hc⟩ := HA.out.2.resolve_left (by omega)
      subst hb
      have hcell : w.cell? ⟨b, o + k, none⟩ = some (.int .i64 (zs.getD k 0 : Nat)) := hc k hlt
      have hkl : k < zs.length := by rw [HL.out]; exact hlt
      have htk : (zs.take (k + 1)).sum = (zs.take k).sum + zs.getD k 0 := by rw [List.take_succ_eq_append_getElem hkl, List.sum_append, List.sum_cons, List.sum_nil]; simp [List.getD, hkl]
      have hzk := HZ.out (zs.getD k 0) (by simp [List.getD, hkl])
      have htot : (zs.take (k + 1)).sum ≤ zs.sum := by
        have := congrArg List.sum (List.take_append_drop (k + 1) zs)
        rw [List.sum_append] at this
        omega
      have HT := Lib.hid (And.intro htk htot)
      clear htk htot hc
      generalize zs.getD k 0 = y at *
      generalize (zs.take k).sum = q at *
      by_cases hgt : 1048576 < q + y
      · have e1 : decide ((1048576 : Int) < (q : Int) + (y : Int)) = true := by simp; omega
        have hr : decide (1048576 < zs.sum) = true := by have := HT.out; simp; omega
        have HR := Lib.hid hr
        clear hr
        go_wp2_with fail
        go_ret
        exact ⟨ret1 (by rw [HR.out]; rfl), rfl⟩
      · have e1 : decide ((1048576 : Int) < (q : Int) + (y : Int)) = false := by simp; omega
        go_wp2_with fail
        go_round
        case rel => exact ⟨k + 1, by omega, by go_num, by rw [HT.out.1]; go_num, by rw [HT.out.1]; omega⟩
        case measure => simp [intOf]; omega
    · have : k = len := by omega
      subst this
      have hr : decide (1048576 < zs.sum) = false := by rw [← HL.out, List.take_length] at hI; simp; omega
      have HR := Lib.hid hr
      clear hr
      go_wp2_with fail
      go_ret
      exact ⟨ret1 (by rw [HR.out]; rfl), rfl⟩

theorem ArgRow.belowT {w w' : World} {a : Option Addr} {n c : Nat} {f : Nat → Value} (h : ArgRow w a n c f) (hb : Below w.heap.size w w') : ArgRow w' a n c f := by
  refine ⟨h.1, h.2.imp id ?_⟩
  rintro ⟨b, o, e, hc⟩
  exact ⟨b, o, e, fun i hi => by rw [hb.cell (World.block_lt_of_cell? w _ (hc i hi))]; exact hc i hi⟩
/-- How much texts have in them. -/
def totalT (zs : List ByteArray) : Nat := zs.length + (zs.map ByteArray.size).sum
theorem total_take (zs : List ByteArray) (k : Nat) : ((zs.take k).map ByteArray.size).sum ≤ (zs.map ByteArray.size).sum := by
  have := congrArg (fun l => (l.map ByteArray.size).sum) (List.take_append_drop k zs)
  simp only [List.map_append, List.sum_append] at this
  omega
theorem total_mem {zs : List ByteArray} {s : ByteArray} (h : s ∈ zs) : s.size + zs.length ≤ totalT zs := by
  unfold totalT
  have : s.size ≤ (zs.map ByteArray.size).sum := by
    induction zs with
    | nil => cases h
    | cons z zs ih =>
      simp only [List.map_cons, List.sum_cons]
      rcases List.mem_cons.1 h with rfl | h
      · omega
      · have := ih h; omega
  omega
set_option maxHeartbeats 800000 in
theorem textsSize_any (w : World) (a : Option Addr) (len cap : Nat) (zs : List ByteArray) (hlen : zs.length = len) (ha : ArgRow w a len cap fun i => .string (zs.getD i ByteArray.empty)) (ht : totalT zs ≤ 1048576) :
    Calls Tryd.prog 29 #[.slice a len cap] w fun e w' => e = .returned (.int .i64 (totalT zs)) ∧ w = w' := by
  have HA := Lib.hid ha
  have HL := Lib.hid hlen
  have hlc := ha.1
  have HT := Lib.hid (show ∀ k, len + ((zs.take k).map ByteArray.size).sum ≤ 1048576 from fun k => by have := total_take zs k; unfold totalT at ht; omega)
  have hln : len ≤ 1048576 := by unfold totalT at ht; omega
  have HF := Lib.hid (show totalT zs = len + ((zs.take len).map ByteArray.size).sum by unfold totalT; rw [List.take_of_length_le (by omega), hlen])
  clear ha hlen ht
  go_enter Tryd.func29, Tryd.ntmps29
  go_wp2_with fail
  go_loop [3, 4] (fun n i => ∃ k : Nat, k ≤ len ∧ i = .int .i64 k ∧ n = .int .i64 ((len + ((zs.take k).map ByteArray.size).sum : Nat) : Int)) (fun _ i => len - (intOf i).toNat)
  case atStart => exact ⟨0, Nat.zero_le _, rfl, by simp⟩
  case round =>
    obtain ⟨k, hk, rfl, rfl⟩ := hrel
    have hT := HT.out k
    by_cases hlt : k < len
    · obtain ⟨b, o, hb, hc⟩ := HA.out.2.resolve_left (by omega)
      subst hb
      have hcell : w.cell? ⟨b, o + k, none⟩ = some (.string (zs.getD k ByteArray.empty)) := hc k hlt
      have hkl : k < zs.length := by rw [HL.out]; exact hlt
      have HN := Lib.hid (show len + ((zs.take (k + 1)).map ByteArray.size).sum = len + ((zs.take k).map ByteArray.size).sum + (zs.getD k ByteArray.empty).size by
        have e : zs.getD k ByteArray.empty = zs[k] := by simp [List.getD, hkl]
        rw [List.take_succ_eq_append_getElem hkl, List.map_append, List.sum_append, List.map_cons, List.map_nil, List.sum_cons, List.sum_nil, e]; omega)
      have hT1 := HT.out (k + 1)
      rw [HN.out] at hT1
      clear hc
      generalize zs.getD k ByteArray.empty = y at *
      generalize hq : len + ((zs.take k).map ByteArray.size).sum = q at *
      have hd : decide ((q : Int) ≤ 1048576) = true := by simp; omega
      clear hq
      go_wp2_with fail
      go_round
      case rel => exact ⟨k + 1, by omega, by go_num, by rw [HN.out]; go_num⟩
      case measure => simp [intOf]; omega
    · obtain rfl : k = len := by omega
      generalize hq : k + ((zs.take k).map ByteArray.size).sum = q at *
      go_wp2_with fail
      go_ret
      exact ⟨ret1 (by rw [HF.out, ← hq]; rfl), rfl⟩
set_option maxHeartbeats 1600000 in
set_option maxRecDepth 100000 in
theorem sameTexts_any (w : World) (a b : Option Addr) (n m ca cb : Nat) (xs ys : List ByteArray) (hn : xs.length = n) (hm : ys.length = m) (ha : ArgRow w a n ca fun i => .string (xs.getD i ByteArray.empty)) (hb : ArgRow w b m cb fun i => .string (ys.getD i ByteArray.empty)) (hs : n ≤ 1000000000 ∧ m ≤ 1000000000) :
    Calls Tryd.prog 15 #[.slice a n ca, .slice b m cb] w fun e w' => e = .returned (.bool (decide (xs = ys))) ∧ ∃ k, w' = w.drewN k := by
  have HA := Lib.hid ha
  have HB := Lib.hid hb
  have hac := ha.1
  have hbc := hb.1
  clear ha hb
  by_cases hnm : n = m
  · subst hnm
    have HL := Lib.hid (And.intro hn hm)
    have hne : ((n : Int) != (n : Int)) = false := by simp
    obtain ⟨r, hr⟩ : ∃ r, decide (xs = ys) = r := ⟨_, rfl⟩
    rw [hr]
    have HR := Lib.hid hr
    clear hn hm hr
    go_enter Tryd.func15, Tryd.ntmps15
    go_wp2_with fail
    go_loopw [5] (fun i wr => ∃ k : Nat, k ≤ n ∧ i = .int .i64 k ∧ (∃ d, wr = w.drewN d) ∧ Hid (xs.take k = ys.take k)) (fun i _ => n - (intOf i).toNat)
    case atStart => exact ⟨0, Nat.zero_le _, rfl, ⟨0, rfl⟩, Lib.hid (by simp)⟩
    case round =>
      obtain ⟨k, hk, rfl, ⟨d, rfl⟩, hI⟩ := hrel
      by_cases hlt : k < n
      · obtain ⟨ab, ao, rfl, hca⟩ := HA.out.2.resolve_left (by omega)
        obtain ⟨bb, bo, rfl, hcb⟩ := HB.out.2.resolve_left (by omega)
        have c1 : (w.drewN d).cell? ⟨ab, ao + k, none⟩ = some (.string (xs.getD k ByteArray.empty)) := hca k hlt
        have c2 : (w.drewN d).cell? ⟨bb, bo + k, none⟩ = some (.string (ys.getD k ByteArray.empty)) := hcb k hlt
        have hkx : k < xs.length := by rw [HL.out.1]; exact hlt
        have hky : k < ys.length := by rw [HL.out.2]; exact hlt
        have HNx := Lib.hid (show xs.getD k ByteArray.empty = ys.getD k ByteArray.empty → xs.take (k + 1) = ys.take (k + 1) from fun h => by
          rw [List.take_succ_eq_append_getElem hkx, List.take_succ_eq_append_getElem hky, hI.out]
          simp only [List.getD, List.getElem?_eq_getElem hkx, List.getElem?_eq_getElem hky, Option.getD_some] at h
          rw [h])
        have HNo := Lib.hid (show xs.getD k ByteArray.empty ≠ ys.getD k ByteArray.empty → r = false from fun h => by
          rw [← HR.out]; exact decide_eq_false (fun e => h (by rw [e])))
        obtain ⟨X1, f, hX1, hf, hF⟩ := classOf (fun x => x.cell? ⟨ab, ao + k, none⟩ = some (.string (xs.getD k ByteArray.empty)) ∧ x.cell? ⟨bb, bo + k, none⟩ = some (.string (ys.getD k ByteArray.empty))) ⟨c1, c2⟩
        have HF := Lib.hid (hF (w.drewN d).drew ⟨c1, c2⟩)
        generalize xs.getD k ByteArray.empty = x at *
        generalize ys.getD k ByteArray.empty = y at *
        have hf1 := fun x => (hf x).1
        have hf2 := fun x => (hf x).2
        clear hF hf hca hcb c1 c2 hI
        by_cases hxy : x = y
        · have hq : (x.toList == y.toList) = true := by rw [hxy]; exact beq_self_eq_true _
          have HXY := Lib.hid (HNx.out hxy)
          clear hxy
          go_wp2_with fail
          refine wp_region_text ⟨[], [], 9⟩ (fun w' => ∃ x : X1, w' = f x) (by kernel_rfl) (by kernel_rfl) HF.out ?_
          refine wpC_seg false (HF.out) 9 0 _ _ (by rfl) (by rfl) ?_
          simp only [List.take_succ_cons, List.take_zero, List.drop_succ_cons, List.drop_zero, Bool.false_eq_true, if_false, Nat.zero_add, Nat.reduceAdd]
          repeat (go_big_quiet_step (fail))
          refine wpQuiet_nil ?_
          refine wpC_nil ?_
          clear hf1 hf2 hX1 HF
          go_wp2_with fail
          go_roundw
          case rel => exact ⟨k + 1, by omega, by go_num, ⟨d + 1, rfl⟩, HXY⟩
          case measure => simp [intOf]; omega
        · have hq : (x.toList == y.toList) = false := by
            rw [beq_eq_false_iff_ne, ne_eq, ByteArray.toList_eq, ByteArray.toList_eq]
            exact fun e => hxy (ByteArray.ext (Array.toList_inj.1 e))
          have HRf := Lib.hid (HNo.out hxy)
          clear hxy
          go_wp2_with fail
          refine wp_region_text ⟨[], [], 9⟩ (fun w' => ∃ x : X1, w' = f x) (by kernel_rfl) (by kernel_rfl) HF.out ?_
          refine wpC_seg false (HF.out) 9 0 _ _ (by rfl) (by rfl) ?_
          simp only [List.take_succ_cons, List.take_zero, List.drop_succ_cons, List.drop_zero, Bool.false_eq_true, if_false, Nat.zero_add, Nat.reduceAdd]
          repeat (go_big_quiet_step (fail))
          refine wpQuiet_nil ?_
          refine wpC_nil ?_
          clear hf1 hf2 hX1 HF
          go_wp2_with fail
          go_ret
          exact ⟨ret1 (by rw [HRf.out]; rfl), d + 1, rfl⟩
      · obtain rfl : k = n := by omega
        have HRt := Lib.hid (show r = true by
          have h := hI.out
          rw [List.take_of_length_le (by have := HL.out.1; omega), List.take_of_length_le (by have := HL.out.2; omega)] at h
          rw [← HR.out]; exact decide_eq_true h)
        clear hI
        go_wp2_with fail
        go_ret
        exact ⟨ret1 (by rw [HRt.out]; rfl), d, rfl⟩
  · have hne : ((n : Int) != (m : Int)) = true := by simp only [bne_iff_ne, ne_eq]; omega
    have hr : decide (xs = ys) = false := decide_eq_false (fun e => hnm (by rw [← hn, ← hm, e]))
    rw [hr]
    go_enter Tryd.func15, Tryd.ntmps15
    go_wp2_with fail
    go_ret
    exact ⟨rfl, 0, rfl⟩
end Go.Proofs.YtcoepekoacpgnaaDoor
