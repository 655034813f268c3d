/- pack.Parse, of a piece. -/
import Derived.Test.YtcoepekoacpgnaaDoorPckA
namespace Go.Proofs.YtcoepekoacpgnaaDoor
set_option linter.unusedVariables false
set_option linter.unusedSimpArgs false
open Go.RowKit
theorem str_cut (s : ByteArray) (a n : Nat) : (s.extract a (a + n)).toList = (s.data.toList.drop a).take n := by
  rw [ByteArray.toList_eq, ByteArray.data_extract, Array.toList_extract, List.extract_eq_take_drop, Nat.add_sub_cancel_left]
theorem packL_last (L : List ByteArray) : ∃ h : sizeP L - 1 < (packL L).length, (packL L)[sizeP L - 1] = 255 := by
  have h1 := packL_length L
  have h2 := sizeP_pos L
  refine ⟨by omega, ?_⟩
  have h3 : (packL L)[sizeP L - 1]? = some 255 := by
    have := packL_drop L L.length
    rw [List.drop_length, bodyL_nil, List.nil_append, offL_all (Nat.le_refl _)] at this
    have e := congrArg (fun l => l[0]?) this
    simpa using e
  exact (List.getElem?_eq_some_iff.1 h3).2
theorem packL_mid {L : List ByteArray} {i : Nat} (h : i < L.length) : ((packL L).drop (offL L i)).take (sizeP L - 1 - offL L i) = entL L[i] ++ bodyL (L.drop (i + 1)) ∧ ((packL L).drop (offL L i)).take (entL L[i]).length = entL L[i] := by
  have h1 := offL_all (L := L) (Nat.le_refl _)
  have h2 : (bodyL (L.drop i)).length = sizeP L - 1 - offL L i := by
    have := drop_length L i
    rw [packL_drop, List.length_append, List.length_singleton] at this
    omega
  rw [packL_drop]
  refine ⟨?_, ?_⟩
  · rw [← h2, List.take_left, List.drop_eq_getElem_cons h, bodyL_cons]
  · rw [List.drop_eq_getElem_cons h, bodyL_cons, List.append_assoc, List.take_left]
set_option maxHeartbeats 3200000 in
set_option maxRecDepth 100000 in
theorem parse_pack {w : World} (hl : Laid w) (L : List ByteArray) (ok : OKL L) (s : ByteArray) (hs : s = strOf (packL L)) :
    Calls Tryd.prog 18 #[.string s] w fun e w' => (∃ p F, e = .returned (.tuple #[.pointer (some ⟨p, 0, none⟩), .int .i64 0]) ∧ PackF w' p F L ∧ ∀ k, F k → w.heap.size ≤ k) ∧ Below w.heap.size w w' := by
  have hz9 := sizeP_pos L
  have okz := ok.size
  have okm := ok.many
  have hsd : s.data.toList = packL L := by rw [hs, strOf_data]
  have hss : s.size = sizeP L := by rw [hs, strOf_size, packL_length]
  obtain ⟨cap, cur, w1, hcv, hrow, hsize, hle, hcm, htk, hch⟩ := run_bytes_string (P := Tryd.prog) w 9 67 5 Tryd.underlying9 Tryd.underlying67 Tryd.underlying5 s (by omega)
  rw [hsd, hss] at htk
  rw [hss] at hcv hle
  have hgs := hrow.lt
  obtain ⟨w2, hw2⟩ : ∃ w2, w2 = w1.alloc (.cells #[.slice (some ⟨w.heap.size, 0, none⟩) (sizeP L) cap] 69) := ⟨_, rfl⟩
  have hch2 : Chg (fun _ => False) w w2 := by rw [hw2]; exact hch.trans (Chg.alloc _ _ _) fun _ h _ => h
  have hB2 : Below w.heap.size w w2 := belowChg (Below.refl _ _) hch2 (Nat.le_refl _) fun k hk => hk.elim
  have hR : PackRow w2 w1.heap.size w.heap.size cap cur L :=
    { head := by rw [hw2]; exact heap_new _ _, row := by rw [hw2]; exact hrow.old _, size := hsize, le := hle, capm := hcm, bytes := htk, ok := ok }
  have HW2 := Lib.hid hw2
  have c0 := hR.cell0
  have HLen := Lib.hid (plen_row hR)
  have HLow := Lib.hid (low_any w.heap.size 0 4 cap (leN 4 (sizeP L)) w2 (by simp) (by omega) (hR.cells 0 (by rw [leN_length, List.drop_zero]; exact packL_head L)))
  rw [lowN_leN, Nat.mod_eq_of_lt (by omega)] at HLow
  obtain ⟨hl1, hl2⟩ := packL_last L
  have hlast : w2.cell? ⟨w.heap.size, sizeP L - 1, none⟩ = some (.int .u8 255) := by rw [hR.cell hl1, hl2]; rfl
  have HR := Lib.hid (And.intro hR hB2)
  have HSd := Lib.hid hsd
  have HFin := Lib.hid (show ∀ w', Below w2.heap.size w2 w' → (∃ p F, (.returned (.tuple #[.pointer (some ⟨w1.heap.size, 0, none⟩), .int .i64 0]) : Ending) = .returned (.tuple #[.pointer (some ⟨p, 0, none⟩), .int .i64 0]) ∧ PackF w' p F L ∧ ∀ k, F k → w.heap.size ≤ k) ∧ Below w.heap.size w w' from fun w' hb =>
    ⟨⟨w1.heap.size, fun k => k = w1.heap.size ∨ k = w.heap.size, rfl, ⟨_, cap, cur, hR.chg (Chg.of_below (fun _ => False) hb) id id, fun k => Iff.rfl⟩, fun k hk => by rcases hk with rfl | rfl <;> omega⟩, hB2.trans (hb.mono hB2.size)⟩)
  have HLd := Lib.hid (show ∀ w', Below w2.heap.size w2 w' → Laid w' from fun w' hb => hl.below (hB2.trans (hb.mono hB2.size)))
  unfold maxLen at hcm
  have hpl := heap_lt hR.head
  have hpne : ¬ sizeP L ≤ 8 := by omega
  have HOff := Lib.hid (show ∀ k, offL L k + 1 ≤ sizeP L ∧ 8 ≤ offL L k from fun k => ⟨(offL_lt L k).2, (offL_lt L k).1⟩)
  have HEnd := Lib.hid (offL_all (L := L) (Nat.le_refl _))
  have HEach := Lib.hid ok.each
  have HOk := Lib.hid ok
  have HSS := Lib.hid hss
  rw [← hss] at hcv hle c0 HLow hlast HOff HEnd okz hz9 HW2
  clear hss hpne
  have hd1 : decide ((s.size : Int) ≤ 8) = false := by simp; omega
  have hd2 : decide ((1073741824 : Int) < (s.size : Int)) = false := by simp; omega
  have hd3 : decide ((2147483647 : Int) < (s.size : Int)) = false := by simp; omega
  clear hw2 hch hch2 hB2 hR hrow htk hsd hs ok hl hgs hl1 hl2 hsize
  obtain ⟨many, hmn⟩ : ∃ many, L.length = many := ⟨_, rfl⟩
  rw [hmn] at okm HLen
  have HMn := Lib.hid hmn
  have hd4 : decide ((1048576 : Int) < (many : Int)) = false := by simp; omega
  clear hmn
  go_enter Tryd.func18, Tryd.ntmps18
  go_wp2_with fail
  rw [← HW2.out]
  refine HLen.out.mono ?_
  rintro e w' ⟨rfl, rfl⟩
  go_wp2_with fail
  refine HLow.out.mono ?_
  rintro e w' ⟨rfl, rfl⟩
  have hlast' : w2.cell? ⟨w.heap.size, s.size - 1, none⟩ = some (.int .u8 255) := hlast
  have hsu : IntKind.u64.wrap (s.size : Int) = (s.size : Int) := IntWalk.u64_in _ ⟨by omega, by omega⟩
  go_wp2_with fail
  generalize hpe : w1.heap.size = p at *
  have HPe := Lib.hid hpe
  clear hpe HLow HLen hlast hlast' hcv hsu
  go_loopw [6, 57] (fun x i wr => ∃ k : Nat, k ≤ many ∧ i = .int .i64 k ∧ x = .int .i64 (offL L k) ∧ Hid (Below w2.heap.size w2 wr)) (fun _ i _ => many - (intOf i).toNat)
  case atStart => exact ⟨0, Nat.zero_le _, rfl, by rw [offL_zero]; rfl, Lib.hid (Below.refl _ _)⟩
  case round =>
    obtain ⟨k, hk, rfl, rfl, hB⟩ := hrel
    by_cases hlt : k < many
    · have hkl : k < L.length := by rw [HMn.out]; exact hlt
      have hof := HOff.out k
      have hof1 := (HOff.out (k + 1)).1
      have hsuc := offL_succ hkl
      have hsm := HOk.out.small hkl
      have hel := entL_length L[k] (by omega)
      obtain ⟨hmid1, hmid2⟩ := packL_mid hkl
      have hsz := HSS.out
      have hent : (entL L[k]).length = (headL L[k]).length + (backL (headL L[k]).length).length := by unfold entL; rw [List.length_append]
      have hhd := headL_length L[k]
      have hbk := backL_length (headL L[k]).length (by omega)
      have hRw := HR.out.1.chg (Chg.of_below (fun _ => False) hB.out) id id
      have hrv : readV (((packL L).drop (offL L k)).take (s.size - 1 - offL L k)) = .tuple #[.string L[k], .int .i64 (headL L[k]).length, .bool true] := by
        unfold readV
        rw [hsz, hmid1, entL, List.append_assoc, read_head _ (by omega)]
      have HRd := Lib.hid (read_any w.heap.size (offL L k) (s.size - 1 - offL L k) (cap - offL L k) (((packL L).drop (offL L k)).take (s.size - 1 - offL L k)) (HLd.out _ hB.out) (by rw [List.length_take, drop_length]; omega) (.inl (by omega)) (by omega) (hRw.cells (offL L k) (by rw [List.length_take, drop_length, Nat.min_eq_left (by omega)])))
      rw [hrv] at HRd
      have HEn := Lib.hid (fun w' (hb : Below w2.heap.size w2 w') => entry_any L[k] (by omega) (HLd.out w' hb))
      have hstr : ((strOf (entL L[k])).toList == (s.extract (offL L k) (offL L k + (entL L[k]).length)).toList) = true := by
        rw [str_cut, HSd.out, hmid2, ByteArray.toList_eq, strOf_data]
        exact beq_self_eq_true _
      have c0w := (hB.out.cell (p := ⟨p, 0, none⟩) hpl).trans c0
      have HOf := Lib.hid (And.intro hsuc hent)
      obtain ⟨x, hx⟩ : ∃ x, L[k] = x := ⟨_, rfl⟩
      rw [hx] at HRd HEn hstr hel hhd hbk hsm HOf
      obtain ⟨nh, hnh⟩ : ∃ nh, (headL x).length = nh := ⟨_, rfl⟩
      rw [hnh] at HRd hhd hbk HOf
      have HBk := Lib.hid (fun w' => back_any nh (by omega) w')
      obtain ⟨nb, hnb⟩ : ∃ nb, (backL nh).length = nb := ⟨_, rfl⟩
      rw [hnb] at HBk hbk HOf
      obtain ⟨ne, hne⟩ : ∃ ne, (entL x).length = ne := ⟨_, rfl⟩
      rw [hne] at HEn hstr hel HOf
      have HNe := Lib.hid hne
      have hdn : ((ne : Int) != (nh : Int) + (nb : Int)) = false := by
        have := HOf.out.2
        rw [bne_eq_false_iff_eq]; omega
      obtain ⟨at_, hat⟩ : ∃ at_, offL L k = at_ := ⟨_, rfl⟩
      rw [hat] at HRd hstr hof HOf ⊢
      rw [HOf.out.1] at hof1
      have hde : decide ((s.size : Int) - 1 - (at_ : Int) < (ne : Int)) = false := by simp; omega
      have hdx : decide ((65536 : Int) < (x.size : Int)) = false := by simp; omega
      have hcc : ¬ cap = at_ := by omega
      have hle1 : at_ ≤ s.size - 1 := by omega
      clear hmid1 hmid2 hent hrv hRw hsuc hx hnh hnb hne hat hsz
      go_wp2_with fail
      refine HRd.out.mono ?_
      rintro e w3 ⟨rfl, b3⟩
      have B3 := Lib.hid (hB.out.trans (b3.mono hB.out.size))
      clear b3 HRd
      go_wp2_with fail
      refine (HEn.out _ B3.out).mono ?_
      rintro e w4 ⟨v4, rfl, s4, b4⟩
      have B4 := Lib.hid (B3.out.trans (b4.mono B3.out.size))
      obtain ⟨ae, ce, rfl, hae⟩ := s4.arg
      have hce := hae.1
      have HCv := Lib.hid (show ∀ w', Below w4.heap.size w4 w' → (convert 67 9 (.slice ae ne ce)).run Tryd.prog w' = .ok (.string (strOf (entL x))) w' from fun w' hb => by
        obtain ⟨b, o, rfl, hc⟩ := (s4.below hb).arg_bytes (by omega)
        exact cells_conv HNe.out hc)
      obtain ⟨E, hE⟩ : ∃ E, strOf (entL x) = E := ⟨_, rfl⟩
      rw [hE] at HCv hstr
      clear s4 b4 hae HEn hE
      obtain ⟨X1, f, hX1, hf, hF⟩ := classOf (fun y => (convert 67 9 (.slice ae ne ce)).run Tryd.prog y = .ok (.string E) y) (HCv.out w4 (Below.refl _ _))
      have HF := Lib.hid hF
      have HF1 := Lib.hid (hF (w4.drewN 1) (HCv.out _ (belowN (Below.refl _ _) 1)))
      clear hF
      go_wp2_with fail
      refine wp_region_text ⟨[4], [], 30⟩ (fun w' => ∃ y : X1, w' = f y) (by kernel_rfl) (by kernel_rfl) HF1.out ?_
      refine wpC_seg false (HF1.out) 4 0 _ _ (by rfl) (by rfl) ?_
      simp only [List.take_succ_cons, List.take_zero, List.drop_succ_cons, List.drop_zero, Bool.false_eq_true, if_false, Nat.zero_add, Nat.reduceAdd]
      repeat (go_big_quiet_step (fail))
      refine wpQuiet_nil ?_
      refine wpC_loud (by rfl) (by rfl) fun K hK => ?_
      go_wp2_with fail
      refine (HBk.out _).mono ?_
      rintro e w5 ⟨v5, rfl, s5, b5⟩
      obtain ⟨ab, cb, rfl, hab⟩ := s5.arg
      have hcb := hab.1
      have b45 : Below w4.heap.size w4 w5 := (belowN (Below.refl w4.heap.size w4) 1).trans b5
      have B5 := Lib.hid (B4.out.trans (b45.mono B4.out.size))
      have HF2 := Lib.hid (HF.out w5 (HCv.out w5 b45))
      refine hK _ _ (fun _ => HF2.out) ?_
      clear hK s5 b5 b45 hab
      refine wpC_seg false (HF2.out) 25 5 _ _ (by rfl) (by rfl) ?_
      simp only [List.take_succ_cons, List.take_zero, List.drop_succ_cons, List.drop_zero, Bool.false_eq_true, if_false, Nat.zero_add, Nat.reduceAdd]
      repeat (go_big_quiet_step (fail))
      refine wpQuiet_nil ?_
      refine wpC_nil ?_
      clear hf hX1 HF HF1 HF2 f
      go_wp2_with fail
      go_roundw
      case rel => exact ⟨k + 1, by omega, by go_num, by rw [HOf.out.1]; go_num, B5⟩
      case measure => simp [intOf]; omega
    · obtain rfl : k = many := by omega
      have hend := HEnd.out
      rw [HMn.out] at hend
      have hne : ((offL L k : Int) != (s.size : Int) - 1) = false := by rw [bne_eq_false_iff_eq]; omega
      generalize offL L k = at_ at *
      go_wp2_with fail
      go_ret2
      have := HFin.out _ hB.out
      exact this
end Go.Proofs.YtcoepekoacpgnaaDoor
