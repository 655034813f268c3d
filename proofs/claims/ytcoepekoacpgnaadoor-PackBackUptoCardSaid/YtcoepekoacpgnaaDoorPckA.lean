/- The laws of the layer pack: filled, may, alive. -/
import Derived.Test.YtcoepekoacpgnaaDoorPck16
import Derived.Test.YtcoepekoacpgnaaDoorTxt
namespace Go.Proofs.YtcoepekoacpgnaaDoor
set_option linter.unusedVariables false
set_option linter.unusedSimpArgs false
open Go.RowKit
theorem packFind {w : World} {p : Nat} {F : Nat → Prop} {L : List ByteArray} (h : PackF w p F L) (hl : Laid w) (s : ByteArray) (a e : Int) (ha : -9223372036854775808 ≤ a ∧ a ≤ 9223372036854775807) (he : -9223372036854775808 ≤ e ∧ e ≤ 9223372036854775807) :
    Calls Tryd.prog 17 #[.pointer (some ⟨p, 0, none⟩), .string s, .int .i64 a, .int .i64 e] w fun en w' => en = .returned (.int .i64 (findP L s a e)) ∧ Below w.heap.size w w' := by
  obtain ⟨g, cap, cur, hr, hF⟩ := h; exact find_row hr hl s a e ha he
set_option maxHeartbeats 800000 in
set_option maxRecDepth 100000 in
theorem parse_short (s : ByteArray) (hs : s.size ≤ 8) (w : World) : Calls Tryd.prog 18 #[.string s] w fun e w' => e = .returned (.tuple #[.pointer none, .int .i64 4]) ∧ w = w' := by
  have hd : decide ((s.size : Int) ≤ 8) = true := by simp; omega
  go_enter Tryd.func18, Tryd.ntmps18
  go_wp2_with fail
  go_ret2
  exact ⟨rfl, rfl⟩
theorem body_le : ∀ (L : List ByteArray), (∀ s ∈ L, s.size ≤ 65536) → (bodyL L).length ≤ 14 * totalT L
  | [], _ => by simp [bodyL]
  | s :: L, h => by
    have h1 := body_le L fun x hx => h x (by simp [hx])
    have h2 := entL_length s (by have := h s (by simp); omega)
    rw [bodyL_cons, List.length_append]
    unfold totalT at *
    simp only [List.length_cons, List.map_cons, List.sum_cons]
    omega
theorem total_le_take (L : List ByteArray) (k : Nat) : totalT (L.take k) ≤ totalT L := by
  have := total_take L k
  unfold totalT
  rw [List.length_take]; omega
theorem okl_of {L : List ByteArray} (h : ∀ s ∈ L, s.size ≤ 65536) (ht : totalT L ≤ 1048576) : OKL L := by
  have := body_le L h
  exact ⟨by unfold sizeP; omega, by unfold totalT at ht; omega, h⟩
def fitsT (zs : List ByteArray) : Bool := decide (∀ s ∈ zs, s.size ≤ 65536)
set_option maxHeartbeats 1600000 in
set_option maxRecDepth 100000 in
theorem filled_any {w : World} (hl : Laid w) (a : Option Addr) (n cap : Nat) (zs : List ByteArray) (hlen : zs.length = n) (ha : ArgRow w a n cap fun i => .string (zs.getD i ByteArray.empty)) (ht : totalT zs ≤ 1048576) :
    Calls Tryd.prog 13 #[.slice a n cap] w fun e w' => (∃ p, e = .returned (.tuple #[.pointer (some ⟨p, 0, none⟩), .bool (fitsT zs)]) ∧ (fitsT zs = true → ∃ F, PackF w' p F zs ∧ ∀ k, F k → w.heap.size ≤ k)) ∧ Below w.heap.size w w' := by
  have hac := ha.1
  have HA := Lib.hid ha
  have HLn := Lib.hid hlen
  have HT := Lib.hid ht
  have HLd := Lib.hid hl
  have hn : n ≤ 1048576 := by unfold totalT at ht; omega
  have HN := Lib.hid (packNew w)
  clear ha hlen ht hl
  go_enter Tryd.func13, Tryd.ntmps13
  go_wp2_with fail
  refine HN.out.mono ?_
  rintro e w1 ⟨p, rfl, ⟨F1, q1, k1⟩, hp, c1⟩
  have HQ := Lib.hid (And.intro q1 (And.intro k1 (belowChg (Below.refl w.heap.size w) c1 (Nat.le_refl _) fun k hk => hk.elim)))
  clear q1 k1 c1 HN
  go_wp2_with fail
  go_loopw [5] (fun i wr => ∃ k : Nat, k ≤ n ∧ i = .int .i64 k ∧ Hid ((∃ F, PackF wr p F (zs.take k) ∧ ∀ k, F k → w.heap.size ≤ k) ∧ Below w.heap.size w wr ∧ ∀ s ∈ zs.take k, s.size ≤ 65536)) (fun i _ => n - (intOf i).toNat)
  case atStart => exact ⟨0, Nat.zero_le _, rfl, Lib.hid ⟨⟨F1, by simpa using HQ.out.1, HQ.out.2.1⟩, HQ.out.2.2, by simp⟩⟩
  case round =>
    obtain ⟨k, hk, rfl, hI⟩ := hrel
    by_cases hlt : k < n
    · obtain ⟨b, o, hb, hc⟩ := HA.out.2.resolve_left (by omega)
      subst hb
      have hcell : w.cell? ⟨b, o + k, none⟩ = some (.string (zs.getD k ByteArray.empty)) := hc k hlt
      have hkl : k < zs.length := by rw [HLn.out]; exact hlt
      have hcell' : wr.cell? ⟨b, o + k, none⟩ = some (.string (zs.getD k ByteArray.empty)) := by rw [hI.out.2.1.cell (World.block_lt_of_cell? w _ hcell)]; exact hcell
      obtain ⟨⟨F, hP, hF⟩, hB, hE⟩ := hI.out
      have hmem : zs.getD k ByteArray.empty ∈ zs := by simp [List.getD, hkl]
      have hys : (zs.getD k ByteArray.empty).size ≤ 1048576 := by have := total_mem hmem; have := HT.out; omega
      have HIn := Lib.hid (packInsert hP (HLd.out.below hB) (k : Int) (by omega) (zs.getD k ByteArray.empty) (by omega))
      have hlk : (zs.take k).length = k := by rw [List.length_take]; omega
      have htk : zs.take (k + 1) = zs.take k ++ [zs.getD k ByteArray.empty] := by rw [List.take_succ_eq_append_getElem hkl]; simp [List.getD, hkl]
      by_cases hy : (zs.getD k ByteArray.empty).size ≤ 65536
      · have hall : ∀ s ∈ zs.take (k + 1), s.size ≤ 65536 := fun s hs => by
          rw [htk, List.mem_append, List.mem_singleton] at hs
          rcases hs with hs | rfl
          · exact hE s hs
          · exact hy
        have hok := okl_of hall (by have := total_le_take zs (k + 1); have := HT.out; omega)
        have hins : insP (zs.take k) k (zs.getD k ByteArray.empty) = (0, zs.take (k + 1)) := by
          have h1 := hok.size
          have h2 : bodyL (zs.take (k + 1)) = bodyL (zs.take k) ++ entL (zs.getD k ByteArray.empty) := by rw [htk, bodyL_append, bodyL_cons, bodyL_nil, List.append_nil]
          unfold sizeP at h1
          rw [h2, List.length_append] at h1
          unfold insP
          rw [hlk, if_neg (by omega), if_neg (by omega), if_neg (by unfold sizeP; omega), htk]
          rw [Int.toNat_natCast, List.take_of_length_le (by omega), List.drop_of_length_le (by omega), List.append_nil]
        rw [hins] at HIn
        have HNx := Lib.hid (show ∀ w', (∃ F', PackF w' p F' (zs.take (k + 1)) ∧ Fresh wr F F') → Chg F wr w' → (∃ F, PackF w' p F (zs.take (k + 1)) ∧ ∀ k, F k → w.heap.size ≤ k) ∧ Below w.heap.size w w' ∧ ∀ s ∈ zs.take (k + 1), s.size ≤ 65536 from fun w' ⟨F', h1, h2⟩ hc =>
          ⟨⟨F', h1, fun j hj => (h2 j hj).elim (hF j) fun h => Nat.le_trans hB.size h⟩, belowChg hB hc hB.size fun j hj _ => hF j hj, hall⟩)
        clear hI hP hF hB hE hins hok hall htk hcell hc hlk hmem
        generalize zs.getD k ByteArray.empty = y at *
        go_wp2_with fail
        refine HIn.out.mono ?_
        rintro e w2 ⟨rfl, h1, h2⟩
        have HS := Lib.hid (HNx.out w2 h1 h2)
        clear h1 h2 HIn HNx
        go_wp2_with fail
        go_roundw
        case rel => exact ⟨k + 1, by omega, by go_num, HS⟩
        case measure => simp [intOf]; omega
      · have hins : insP (zs.take k) k (zs.getD k ByteArray.empty) = (3, zs.take k) := by
          unfold insP
          rw [hlk, if_neg (by omega), if_pos (by omega)]
        rw [hins] at HIn
        have hno : fitsT zs = false := decide_eq_false fun h => hy (h _ hmem)
        have HB := Lib.hid (show ∀ w', Chg F wr w' → Below w.heap.size w w' from fun w' hc => belowChg hB hc hB.size fun j hj _ => hF j hj)
        have HNo := Lib.hid hno
        clear hI hP hF hB hE hins htk hcell hc hlk hmem hno
        generalize zs.getD k ByteArray.empty = y at *
        go_wp2_with fail
        refine HIn.out.mono ?_
        rintro e w2 ⟨rfl, h1, h2⟩
        have HS := Lib.hid (HB.out w2 h2)
        clear h1 h2 HIn
        go_wp2_with fail
        go_ret2
        exact ⟨⟨p, by rw [HNo.out]; rfl, fun h => by rw [HNo.out] at h; cases h⟩, HS.out⟩
    · obtain rfl : k = n := by omega
      have HS := Lib.hid (show (∃ F, PackF wr p F zs ∧ ∀ k, F k → w.heap.size ≤ k) ∧ Below w.heap.size w wr ∧ fitsT zs = true by
        obtain ⟨h1, h2, h3⟩ := hI.out
        rw [List.take_of_length_le (by have := HLn.out; omega)] at h1 h3
        exact ⟨h1, h2, decide_eq_true h3⟩)
      clear hI
      go_wp2_with fail
      go_ret2
      exact ⟨⟨p, by rw [HS.out.2.2]; rfl, fun _ => HS.out.1⟩, HS.out.2.1⟩
set_option maxHeartbeats 800000 in
set_option maxRecDepth 100000 in
theorem may_any (w : World) (a : Option Addr) (n cap : Nat) (zs : List ByteArray) (hlen : zs.length = n) (ha : ArgRow w a n cap fun i => .string (zs.getD i ByteArray.empty)) (ht : totalT zs ≤ 1048576) :
    Calls Tryd.prog 12 #[.slice a n cap] w fun e w' => e = .returned (.bool (decide (n ≤ 1000))) ∧ Below w.heap.size w w' := by
  have HT := Lib.hid (textsSize_any w a n cap zs hlen ha ht)
  have hac := ha.1
  by_cases hn : n ≤ 1000
  · have hd : decide ((n : Int) ≤ 1000) = true := by simp; omega
    rw [decide_eq_true hn]
    obtain ⟨w1, hw1⟩ : ∃ w1, w1 = w.alloc (.cells #[.int .i64 (totalT zs)] 3) := ⟨_, rfl⟩
    have HBe := Lib.hid (beyond_any w1 (some ⟨w.heap.size, 0, none⟩) 1 1 [totalT zs] rfl ⟨Nat.le_refl _, .inr ⟨w.heap.size, 0, rfl, fun i hi => by
      obtain rfl : i = 0 := by omega
      rw [hw1]; exact cell_in (heap_new _ _) rfl⟩⟩ (by simp; omega) (by omega))
    rw [show decide (1048576 < [totalT zs].sum) = false from decide_eq_false (by simp; exact ht)] at HBe
    have HB1 := Lib.hid (show Below w.heap.size w w1 by rw [hw1]; exact (Below.refl _ _).alloc (Nat.le_refl _) _)
    have HW1 := Lib.hid hw1
    clear ha hw1
    generalize totalT zs = T at *
    go_enter Tryd.func12, Tryd.ntmps12
    go_wp2_with fail
    refine HT.out.mono ?_
    rintro e w' ⟨rfl, rfl⟩
    go_wp2_with fail
    rw [← HW1.out]
    refine HBe.out.mono ?_
    rintro e w' ⟨rfl, rfl⟩
    go_wp2_with fail
    go_ret
    exact ⟨rfl, HB1.out⟩
  · have hd : decide ((n : Int) ≤ 1000) = false := by simp; omega
    rw [decide_eq_false hn]
    clear ha
    go_enter Tryd.func12, Tryd.ntmps12
    go_wp2_with fail
    go_ret
    exact ⟨rfl, Below.refl _ _⟩
/-! alive -/
def aliveL : List ByteArray := [⟨#[97, 98]⟩, ⟨#[53]⟩, ⟨#[45, 51, 48, 48]⟩]
theorem intS_ab : intS ⟨#[97, 98]⟩ = none := by decide
theorem intS_5 : intS ⟨#[53]⟩ = some 5 := by
  unfold intS
  rw [show Lib.parseIntB 64 (⟨#[53]⟩ : ByteArray).data.toList = .ok 5 by decide]
  simp [Lib.itoa, Lib.decDigits, strOf]
theorem intS_300 : intS ⟨#[45, 51, 48, 48]⟩ = some (-300) := by
  unfold intS
  rw [show Lib.parseIntB 64 (⟨#[45, 51, 48, 48]⟩ : ByteArray).data.toList = .ok (-300) by decide]
  simp [Lib.itoa, Lib.decDigits, strOf]
theorem alive_packL : packL aliveL = [20, 0, 0, 0, 3, 0, 0, 0, 2, 97, 98, 3, 241, 5, 2, 242, 212, 254, 3, 255] := by
  unfold packL sizeP
  have h : bodyL aliveL = [2, 97, 98, 3, 241, 5, 2, 242, 212, 254, 3] := by
    unfold aliveL
    rw [bodyL_cons, bodyL_cons, bodyL_cons, bodyL_nil, entL, entL, entL, headL_short intS_ab (by decide), headL_int intS_5, headL_int intS_300]
    decide
  rw [h]
  decide
theorem alive_bytes : strOf (packL aliveL) = ⟨#[20, 0, 0, 0, 3, 0, 0, 0, 2, 97, 98, 3, 241, 5, 2, 242, 212, 254, 3, 255]⟩ := by rw [alive_packL]; rfl
theorem alive_fits : fitsT aliveL = true := by decide
theorem alive_find : findP aliveL ⟨#[53]⟩ 0 2 = -1 := by
  unfold findP
  rw [if_neg (by decide)]
  have h : (toldP aliveL).find? (hitP ⟨#[53]⟩ 0 2) = none := by
    unfold toldP hitP aliveL
    simp only [ByteArray.toList_eq]
    decide +kernel
  rw [h]
theorem alive_get : getV aliveL (-1) = .tuple #[.string ⟨#[45, 51, 48, 48]⟩, .bool true] := rfl
theorem alive_ins : insP aliveL 4 ⟨#[120]⟩ = (1, aliveL) := rfl
set_option maxHeartbeats 1600000 in
set_option maxRecDepth 100000 in
theorem alive5_any {w : World} (hl : Laid w) : Calls Tryd.prog 11 #[] w fun e w' => e = .returned (.bool true) ∧ Below w.heap.size w w' := by
  obtain ⟨w1, hw1⟩ : ∃ w1, w1 = w.alloc (.cells #[.string ⟨#[97, 98]⟩, .string ⟨#[53]⟩, .string ⟨#[45, 51, 48, 48]⟩] 9) := ⟨_, rfl⟩
  have hb1 : Below w.heap.size w w1 := by rw [hw1]; exact (Below.refl _ _).alloc (Nat.le_refl _) _
  have HFi := Lib.hid (filled_any (hl.below hb1) (some ⟨w.heap.size, 0, none⟩) 3 3 aliveL rfl ⟨Nat.le_refl _, .inr ⟨w.heap.size, 0, rfl, fun i hi => by
    rw [hw1]
    refine cell_in (heap_new _ _) ?_
    match i, hi with
    | 0, _ => rfl
    | 1, _ => rfl
    | 2, _ => rfl⟩⟩ (by decide))
  rw [alive_fits] at HFi
  have HB1 := Lib.hid hb1
  have HW1 := Lib.hid hw1
  have HLd := Lib.hid (fun w' (hb : Below w.heap.size w w') => hl.below hb)
  clear hw1 hb1 hl
  go_enter Tryd.func11, Tryd.ntmps11
  go_wp2_with fail
  rw [← HW1.out]
  refine HFi.out.mono ?_
  rintro e w2 ⟨⟨p, rfl, h2⟩, b2⟩
  obtain ⟨F, hP, hF⟩ := h2 trivial
  have B2 := Lib.hid (HB1.out.trans (b2.mono HB1.out.size))
  have HP := Lib.hid (fun w' (hb : Below w2.heap.size w2 w') => hP.below hb)
  have KF := Lib.hid (show ∀ k, F k → w.heap.size ≤ k from fun k hk => Nat.le_trans HB1.out.size (hF k hk))
  have HG := Lib.hid (packGet hP (HLd.out _ B2.out) (-1) (by omega))
  rw [alive_get] at HG
  clear h2 hP hF b2 HFi
  go_wp2_with fail
  refine HG.out.mono ?_
  rintro e w3 ⟨rfl, b3⟩
  have B3 := Lib.hid b3
  clear b3 HG
  go_wp2_with fail
  refine (parse_short _ (by decide) _).mono ?_
  rintro e w' ⟨rfl, rfl⟩
  have HBy := Lib.hid (packBytes (HP.out _ B3.out))
  rw [alive_bytes] at HBy
  have HFn := Lib.hid (packFind (HP.out _ B3.out) (HLd.out _ (B2.out.trans (B3.out.mono B2.out.size))) ⟨#[53]⟩ 0 2 (by omega) (by omega))
  rw [alive_find] at HFn
  go_wp2_with fail
  refine HBy.out.mono ?_
  rintro e w' ⟨rfl, rfl⟩
  go_wp2_with fail
  refine HFn.out.mono ?_
  rintro e w4 ⟨rfl, b4⟩
  have B4 := Lib.hid (B3.out.trans (b4.mono B3.out.size))
  have HI := Lib.hid (packInsert (HP.out _ B4.out) (HLd.out _ (B2.out.trans (B4.out.mono B2.out.size))) 4 (by omega) ⟨#[120]⟩ (by decide))
  rw [alive_ins] at HI
  clear b4 HFn HBy
  go_wp2_with fail
  refine HI.out.mono ?_
  rintro e w5 ⟨rfl, _, c5⟩
  have B5 := Lib.hid (belowChg (B2.out.trans (B4.out.mono B2.out.size)) c5 (Nat.le_trans B2.out.size B4.out.size) fun k hk _ => KF.out k hk)
  clear c5 HI
  go_wp2_with fail
  go_ret
  exact ⟨rfl, B5.out⟩
end Go.Proofs.YtcoepekoacpgnaaDoor
