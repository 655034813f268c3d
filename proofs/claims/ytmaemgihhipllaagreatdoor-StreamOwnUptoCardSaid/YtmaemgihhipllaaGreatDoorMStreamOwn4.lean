/- Lemmas and walks for StreamOwn, part 4 of 5: the texts Dec3, Dec4, Dec5, Stm1, Stm2, Stm3, Stm4, Stm5, Stm6, Stm7, Stm8, Stm9, Stm10, Stm14, Stm15, Stm16, Reg2, Stm17, Stm18, Stm19, Stm20, Stm21, Stm22. -/
import Derived.Test.YtmaemgihhipllaaGreatDoorMStreamOwn3
import Derived.Laws.ResultCell
import Derived.Test.YtmaemgihhipllaaGreatDoorMStreamOwn1
import Derived.Sort.CutIn
import Derived.Laws.StructEq
import Derived.OrdersIn
import Derived.ControlIn
/- stream.ID: the identifier of a text. -/
namespace Go.Proofs.YtmaemgihhipllaaGreatDoor
set_option linter.unusedVariables false
set_option linter.unusedSimpArgs false
open Go.RowKit
def cutS (s : ByteArray) : ByteArray × ByteArray × Bool := (⟨(Lib.cut s.data.toList [45]).1.toArray⟩, ⟨(Lib.cut s.data.toList [45]).2.1.toArray⟩, (Lib.cut s.data.toList [45]).2.2)
/-- What ID says of a text. -/
def idS (s : ByteArray) (seq : Nat) : (Nat × Nat) × Bool :=
  if (numS (cutS s).1).2 && (!(cutS s).2.2 || (numS (cutS s).2.1).2) then (((numS (cutS s).1).1, if (cutS s).2.2 then (numS (cutS s).2.1).1 else seq), true) else ((0, 0), false)
theorem cut_size (s : ByteArray) : (cutS s).1.size ≤ s.size ∧ (cutS s).2.1.size ≤ s.size := by
  unfold cutS Lib.cut
  have e : s.size = s.data.toList.length := Array.length_toList.symm
  split
  · simp only [ByteArray.size, List.size_toArray, List.length_take, List.length_drop]
    simp only [ByteArray.size] at e
    omega
  · simp only [ByteArray.size, List.size_toArray, List.length_nil]
    simp only [ByteArray.size] at e
    omega
set_option maxHeartbeats 3200000 in
set_option maxRecDepth 100000 in
theorem id_any (s : ByteArray) (seq : Nat) (hs : s.size < 4294967281) (hq : seq < 18446744073709551616) {w : World} (hl : Laid w) :
    Calls Tryz.prog 51 #[.string s, .int .u64 seq] w fun e w' => e = .returned (.tuple #[.agg #[.int .u64 (idS s seq).1.1, .int .u64 (idS s seq).1.2], .bool (idS s seq).2]) ∧ Below w.heap.size w w' := by
  obtain ⟨w1, hw1⟩ : ∃ w1, w1 = w.alloc (.cells #[.int .u64 0, .int .u64 0] 41) := ⟨_, rfl⟩
  have hb1 : Below w.heap.size w w1 := by rw [hw1]; exact (Below.refl _ _).alloc (Nat.le_refl _) _
  have hh1 : w1.heap[w.heap.size]? = some (.cells #[.int .u64 0, .int .u64 0] 41 (0, 0)) := by rw [hw1]; exact heap_new _ _
  have hlt1 := heap_lt hh1
  have hl1 := hl.below hb1
  obtain ⟨mx, hmx⟩ := hl1.max
  obtain ⟨c1, c2, both⟩ : True ∧ True ∧ True := ⟨trivial, trivial, trivial⟩
  have hsz := cut_size s
  have hcut := Tryz.strings_Cut s ⟨#[45]⟩ mx w1 hs hmx
  obtain ⟨a, ha⟩ : ∃ a, (cutS s).1 = a := ⟨_, rfl⟩
  obtain ⟨b, hbb⟩ : ∃ b, (cutS s).2.1 = b := ⟨_, rfl⟩
  obtain ⟨k, hk⟩ : ∃ k, (cutS s).2.2 = k := ⟨_, rfl⟩
  have hcut' : Calls Tryz.prog 85 #[.string s, .string ⟨#[45]⟩] w1 fun e w' => e = .returned (.tuple #[.string a, .string b, .bool k]) ∧ ∃ n, w' = w1.drewN n := by
    rw [← ha, ← hbb, ← hk]; exact hcut
  rw [ha, hbb] at hsz
  have hid : idS s seq = if (numS a).2 && (!k || (numS b).2) then (((numS a).1, if k then (numS b).1 else seq), true) else ((0, 0), false) := by
    unfold idS; rw [ha, hbb, hk]
  have HA := Lib.hid (fun w' (hb : Below w1.heap.size w1 w') => number_any a (by omega) (hl1.below hb))
  have HBn := Lib.hid (fun w' (hb : Below w1.heap.size w1 w') => number_any b (by omega) (hl1.below hb))
  have HC := Lib.hid hcut'
  obtain ⟨am, ham⟩ : ∃ am, (numS a).1 = am := ⟨_, rfl⟩
  obtain ⟨bm, hbm⟩ : ∃ bm, (numS b).1 = bm := ⟨_, rfl⟩
  obtain ⟨aok, haok⟩ : ∃ aok, (numS a).2 = aok := ⟨_, rfl⟩
  obtain ⟨bok, hbok⟩ : ∃ bok, (numS b).2 = bok := ⟨_, rfl⟩
  rw [ham, haok] at HA
  rw [hbm, hbok] at HBn
  rw [hid, ham, hbm, haok, hbok]
  have HW := Lib.hid hw1
  have HB1 := Lib.hid hb1
  have HH := Lib.hid hh1
  have HEnd : Hid (∀ w' x y, Below w1.heap.size w1 w' → (((w'.setCell ⟨w.heap.size, 0, none⟩ x).setCell ⟨w.heap.size, 1, none⟩ y).cell? ⟨w.heap.size, 0, none⟩ = some x ∧ ((w'.setCell ⟨w.heap.size, 0, none⟩ x).setCell ⟨w.heap.size, 1, none⟩ y).cell? ⟨w.heap.size, 1, none⟩ = some y) ∧ Below w.heap.size w ((w'.setCell ⟨w.heap.size, 0, none⟩ x).setCell ⟨w.heap.size, 1, none⟩ y)) := Lib.hid fun w' x y hb => by
    have h0 := (hb.block _ hlt1).trans hh1
    have h1 := setCell_head h0 0 x
    have h2 := setCell_head h1 1 y
    have bb := hb1.trans (hb.mono hb1.size)
    exact ⟨⟨cell_in h2 rfl, cell_in h2 rfl⟩, (bb.setCell (Nat.le_refl _) _).setCell (Nat.le_refl _) _⟩
  have HOld : Hid (∀ w', Below w1.heap.size w1 w' → (w'.cell? ⟨w.heap.size, 0, none⟩ = some (.int .u64 0) ∧ w'.frozen? ⟨w.heap.size, 0, none⟩ = false) ∧ ∀ x, (w'.setCell ⟨w.heap.size, 0, none⟩ x).cell? ⟨w.heap.size, 1, none⟩ = some (.int .u64 0) ∧ (w'.setCell ⟨w.heap.size, 0, none⟩ x).frozen? ⟨w.heap.size, 1, none⟩ = false) := Lib.hid fun w' hb => by
    have h0 := (hb.block _ hlt1).trans hh1
    exact ⟨⟨cell_in h0 rfl, frozen_in h0 0⟩, fun x => ⟨cell_in (setCell_head h0 0 x) rfl, frozen_in (setCell_head h0 0 x) 1⟩⟩
  clear hl hw1 hb1 hh1 hl1 hmx hsz hcut hcut' ha hbb hk hid ham hbm haok hbok hs hq hlt1 c1 c2 both
  go_enter Tryz.func51, Tryz.ntmps51
  go_wp2_with fail
  rw [← HW.out]
  refine HC.out.mono ?_
  rintro e w2 ⟨rfl, n, hw2⟩
  have HB2 := Lib.hid (show Below w1.heap.size w1 w2 by rw [hw2]; exact belowN (Below.refl _ _) n)
  clear hw2
  go_wp2_with fail
  refine (HA.out w2 HB2.out).mono ?_
  rintro e w3 ⟨rfl, b3⟩
  have HB3 := Lib.hid (HB2.out.trans (b3.mono HB2.out.size))
  clear b3
  cases k
  case' false =>
    cases aok
    all_goals
      obtain ⟨⟨q0, f0⟩, hq1⟩ := HOld.out w3 HB3.out
      go_wp2_with fail
      first
      | exact bodyPost_ret (v := .tuple #[.agg #[.int .u64 0, .int .u64 0], .bool false]) (by have h := (HEnd.out w3 (.int .u64 0) (.int .u64 0) HB3.out).1; simp [results, Tryz.results51, go_sem, h.1, h.2]) rfl ⟨rfl, (HEnd.out w3 _ _ HB3.out).2⟩
      | exact bodyPost_ret (v := .tuple #[.agg #[.int .u64 am, .int .u64 seq], .bool true]) (by have h := (HEnd.out w3 (.int .u64 am) (.int .u64 seq) HB3.out).1; simp [results, Tryz.results51, go_sem, h.1, h.2]) rfl ⟨rfl, (HEnd.out w3 _ _ HB3.out).2⟩
  case' true =>
    go_wp2_with fail
    refine (HBn.out w3 HB3.out).mono ?_
    rintro e w4 ⟨rfl, b4⟩
    have HB4 := Lib.hid (HB3.out.trans (b4.mono HB3.out.size))
    clear b4
    cases aok <;> cases bok
    all_goals
      obtain ⟨⟨q0, f0⟩, hq1⟩ := HOld.out w4 HB4.out
      go_wp2_with fail
      first
      | exact bodyPost_ret (v := .tuple #[.agg #[.int .u64 0, .int .u64 0], .bool false]) (by have h := (HEnd.out w4 (.int .u64 0) (.int .u64 0) HB4.out).1; simp [results, Tryz.results51, go_sem, h.1, h.2]) rfl ⟨rfl, (HEnd.out w4 _ _ HB4.out).2⟩
      | exact bodyPost_ret (v := .tuple #[.agg #[.int .u64 am, .int .u64 bm], .bool true]) (by have h := (HEnd.out w4 (.int .u64 am) (.int .u64 bm) HB4.out).1; simp [results, Tryz.results51, go_sem, h.1, h.2]) rfl ⟨rfl, (HEnd.out w4 _ _ HB4.out).2⟩
end Go.Proofs.YtmaemgihhipllaaGreatDoor

/- stream.IDText: an identifier as a text. -/
namespace Go.Proofs.YtmaemgihhipllaaGreatDoor
set_option linter.unusedVariables false
set_option linter.unusedSimpArgs false
open Go.RowKit
def idT (m q : Nat) : ByteArray := decS m ++ ⟨#[45]⟩ ++ decS q
theorem decS_size (u : Nat) (hu : u < 18446744073709551616) : (decS u).size ≤ 20 := by
  have e : (decS u).size = (Lib.decDigits u).length := by simp [decS, ByteArray.size]
  rw [e, Lib.decDigits_length]
  rcases Nat.eq_zero_or_pos u with h | h
  · subst h; rw [Lib.nDigits_small (by omega)]; omega
  · have := Lib.numDigits_eq u h hu; split at this <;> omega
set_option maxHeartbeats 3200000 in
set_option maxRecDepth 100000 in
theorem idText_any (m q : Nat) (hm : m < 18446744073709551616) (hq : q < 18446744073709551616) {w : World} (hl : Laid w) :
    Calls Tryz.prog 53 #[.agg #[.int .u64 m, .int .u64 q]] w fun e w' => e = .returned (.string (idT m q)) ∧ Below w.heap.size w w' := by
  obtain ⟨w1, hw1⟩ : ∃ w1, w1 = w.alloc (.cells #[.int .u64 m, .int .u64 q] 41) := ⟨_, rfl⟩
  have hb1 : Below w.heap.size w w1 := by rw [hw1]; exact (Below.refl _ _).alloc (Nat.le_refl _) _
  have hh1 : w1.heap[w.heap.size]? = some (.cells #[.int .u64 m, .int .u64 q] 41 (0, 0)) := by rw [hw1]; exact heap_new _ _
  have hlt1 := heap_lt hh1
  have hl1 := hl.below hb1
  have HC := Lib.hid (show ∀ w', Below w1.heap.size w1 w' → w'.cell? ⟨w.heap.size, 0, none⟩ = some (.int .u64 m) ∧ w'.cell? ⟨w.heap.size, 1, none⟩ = some (.int .u64 q) from fun w' hb =>
    ⟨cell_in ((hb.block _ hlt1).trans hh1) rfl, cell_in ((hb.block _ hlt1).trans hh1) rfl⟩)
  have HM := Lib.hid (fun w' (hb : Below w1.heap.size w1 w') => fmtU m hm (hl1.below hb))
  have HQ := Lib.hid (fun w' (hb : Below w1.heap.size w1 w') => fmtU q hq (hl1.below hb))
  have hs1 := decS_size m hm
  have hs2 := decS_size q hq
  obtain ⟨a, ha⟩ : ∃ a, decS m = a := ⟨_, rfl⟩
  obtain ⟨b, hb⟩ : ∃ b, decS q = b := ⟨_, rfl⟩
  have hid : idT m q = a ++ ⟨#[45]⟩ ++ b := by unfold idT; rw [ha, hb]
  rw [ha] at HM hs1
  rw [hb] at HQ hs2
  rw [hid]
  obtain ⟨c0, c1⟩ := HC.out w1 (Below.refl _ _)
  obtain ⟨X1, f, hX1, hf, hF⟩ := classOf (fun x => x.cell? ⟨w.heap.size, 0, none⟩ = some (.int .u64 m) ∧ x.cell? ⟨w.heap.size, 1, none⟩ = some (.int .u64 q)) (w := w1) ⟨c0, c1⟩
  have f1 := fun x => (hf x).1
  have f2 := fun x => (hf x).2
  have HF1 := Lib.hid hF
  have HFa := Lib.hid (hF w1.drew ⟨c0, c1⟩)
  have HW := Lib.hid hw1
  have HB1 := Lib.hid hb1
  clear hF hf hl hw1 hb1 hh1 hl1 ha hb hid hm hq hlt1 c0 c1
  go_enter Tryz.func53, Tryz.ntmps53
  go_wp2_with fail
  rw [← HW.out]
  refine wp_region_text ⟨[2, 6], [3, 7, 8], 6⟩ (fun w' => ∃ x : X1, w' = f x) (by kernel_rfl) (by kernel_rfl) HFa.out ?_
  refine wpC_seg false (HFa.out) 2 0 _ _ (by rfl) (by rfl) ?_
  simp only [List.take_succ_cons, List.take_zero, List.drop_succ_cons, List.drop_zero, Bool.false_eq_true, if_false, Nat.zero_add, Nat.reduceAdd]
  repeat (go_big_quiet_step (fail))
  refine wpQuiet_nil ?_
  refine wpC_loud (by rfl) (by rfl) fun K hK => ?_
  go_wp2_with fail
  refine (HM.out _ (belowN (Below.refl _ _) 1)).mono ?_
  rintro e w2 ⟨rfl, b2⟩
  have HB2 := Lib.hid ((belowN (Below.refl w1.heap.size w1) 1).trans b2)
  have HF2 := Lib.hid (HF1.out w2 (HC.out w2 HB2.out))
  refine hK _ _ (fun _ => HF2.out) ?_
  clear hK b2
  refine wpC_seg true (HF2.out) 1 3 _ _ (by rfl) (by rfl) ?_
  simp only [List.take_succ_cons, List.take_zero, List.drop_succ_cons, List.drop_zero, if_true, Nat.zero_add, Nat.reduceAdd]
  repeat (go_big_quiet_step (fail))
  refine wpQuiet_nil ?_
  refine wpC_seg false (HF2.out) 2 4 _ _ (by rfl) (by rfl) ?_
  simp only [List.take_succ_cons, List.take_zero, List.drop_succ_cons, List.drop_zero, Bool.false_eq_true, if_false, Nat.zero_add, Nat.reduceAdd]
  repeat (go_big_quiet_step (fail))
  refine wpQuiet_nil ?_
  refine wpC_loud (by rfl) (by rfl) fun K hK => ?_
  go_wp2_with fail
  refine (HQ.out _ HB2.out).mono ?_
  rintro e w3 ⟨rfl, b3⟩
  have HB3 := Lib.hid (HB1.out.trans ((HB2.out.trans (b3.mono HB2.out.size)).mono HB1.out.size))
  refine hK _ _ (fun h => absurd h (by decide)) ?_
  clear hK b3
  refine wpC_segD 2 7 _ _ (by rfl) (by rfl) ?_
  simp only [List.take_succ_cons, List.take_zero, List.drop_succ_cons, List.drop_zero, if_true, Nat.zero_add, Nat.reduceAdd]
  repeat (go_big_quiet_step (fail))
  refine wpQuiet_nil ?_
  refine wpC_nil ?_
  clear f1 f2 hX1 HF1 HFa HF2 f
  go_wp2_with fail
  go_ret
  exact ⟨rfl, HB3.out⟩
end Go.Proofs.YtmaemgihhipllaaGreatDoor

/- identifiers as texts: plain law. -/
namespace Go.Proofs.YtmaemgihhipllaaGreatDoor
set_option linter.unusedVariables false
set_option linter.unusedSimpArgs false
open Go.RowKit
theorem index_dash : ∀ (x y : List UInt8), (45 : UInt8) ∉ x → Lib.index (x ++ 45 :: y) [45] = x.length
  | [], y, _ => by simp [Lib.index]
  | b :: x, y, h => by
    have h1 : (45 : UInt8) ≠ b := fun e => h (by simp [e])
    have ih := index_dash x y (fun hm => h (by simp [hm]))
    have hp : List.isPrefixOf [(45 : UInt8)] (b :: (x ++ 45 :: y)) = false := by simp [List.isPrefixOf, h1]
    rw [List.cons_append, Lib.index, hp, ih]
    simp
theorem index_nodash : ∀ (x : List UInt8), (45 : UInt8) ∉ x → Lib.index x [45] = -1
  | [], _ => by simp [Lib.index]
  | b :: x, h => by
    have h1 : (45 : UInt8) ≠ b := fun e => h (by simp [e])
    have ih := index_nodash x (fun hm => h (by simp [hm]))
    have hp : List.isPrefixOf [(45 : UInt8)] (b :: x) = false := by simp [List.isPrefixOf, h1]
    rw [Lib.index, hp, ih]
    simp
theorem cut_dash (x y : List UInt8) (h : (45 : UInt8) ∉ x) : Lib.cut (x ++ 45 :: y) [45] = (x, y, true) := by
  unfold Lib.cut
  rw [index_dash x y h, if_pos (by omega)]
  simp
theorem cut_nodash (x : List UInt8) (h : (45 : UInt8) ∉ x) : Lib.cut x [45] = (x, [], false) := by
  unfold Lib.cut
  rw [index_nodash x h, if_neg (by omega)]
theorem dash_split : ∀ (l : List UInt8), (45 : UInt8) ∉ l ∨ ∃ x y, (45 : UInt8) ∉ x ∧ l = x ++ 45 :: y
  | [] => .inl (by simp)
  | b :: l => by
    by_cases hb : b = 45
    · exact .inr ⟨[], l, by simp, by simp [hb]⟩
    · rcases dash_split l with h | ⟨x, y, h, e⟩
      · exact .inl (by simp [h]; exact fun e => hb e.symm)
      · exact .inr ⟨b :: x, y, by simp [h]; exact fun e => hb e.symm, by simp [e]⟩
theorem parse_append (M : Nat) : ∀ (l : List UInt8) (r : List UInt8) (acc : Nat), Lib.parseUintM M acc (l ++ r) = match Lib.parseUintM M acc l with | .ok v => Lib.parseUintM M v r | e => e
  | [], r, acc => by simp [Lib.parseUintM]
  | c :: l, r, acc => by
    simp only [List.cons_append, Lib.parseUintM]
    split
    · split
      · rfl
      · split
        · rfl
        · exact parse_append M l r _
    · rfl
theorem digit_nat (d : Nat) (h : d < 10) : (UInt8.ofNat (48 + d)).toNat = 48 + d := by
  simp only [UInt8.toNat_ofNat']; omega
theorem parse_dec (u : Nat) (hu : u < 18446744073709551616) : Lib.parseUintM 18446744073709551615 0 (Lib.decDigits u) = .ok u := by
  induction u using Nat.strongRecOn with
  | _ u ih =>
    by_cases h : u < 10
    · rw [Lib.decDigits_one h]
      simp only [Lib.parseUintM]
      rw [digit_nat u h]
      simp only [show 48 ≤ 48 + u ∧ 48 + u ≤ 57 from by omega, and_self, if_true]
      rw [if_neg (by omega), if_neg (by omega)]
      congr 1; omega
    · have e : Lib.decDigits u = Lib.decDigits (u / 10) ++ [UInt8.ofNat (48 + u % 10)] := by rw [Lib.decDigits, dif_neg h]
      rw [e, parse_append, ih (u / 10) (by omega) (by omega)]
      simp only [Lib.parseUintM]
      rw [digit_nat (u % 10) (by omega)]
      simp only [show 48 ≤ 48 + u % 10 ∧ 48 + u % 10 ≤ 57 from by omega, and_self, if_true]
      rw [if_neg (by omega), if_neg (by omega)]
      congr 1; omega
theorem dec_nodash (u : Nat) : (45 : UInt8) ∉ Lib.decDigits u ∧ Lib.decDigits u ≠ [] := by
  induction u using Nat.strongRecOn with
  | _ u ih =>
    have hd : ∀ d, d < 10 → (45 : UInt8) ≠ UInt8.ofNat (48 + d) := fun d hd e => by
      have := congrArg UInt8.toNat e
      rw [digit_nat d hd] at this
      simp at this
      omega
    by_cases h : u < 10
    · rw [Lib.decDigits_one h]
      exact ⟨fun hm => hd u h (List.mem_singleton.1 hm), by simp⟩
    · have e : Lib.decDigits u = Lib.decDigits (u / 10) ++ [UInt8.ofNat (48 + u % 10)] := by rw [Lib.decDigits, dif_neg h]
      rw [e]
      exact ⟨fun hm => (List.mem_append.1 hm).elim (ih (u / 10) (by omega)).1 fun h2 => hd _ (Nat.mod_lt _ (by omega)) (List.mem_singleton.1 h2), by simp⟩
theorem numS_dec (u : Nat) (hu : u < 18446744073709551616) : numS (decS u) = (u, true) := by
  have h : Lib.parseUintB 64 (decS u).data.toList = .ok u := by
    show Lib.parseUintB 64 (Lib.decDigits u) = .ok u
    unfold Lib.parseUintB
    rw [if_neg (dec_nodash u).2]
    exact parse_dec u hu
  unfold numS
  rw [h]
  simp
theorem idT_list (m q : Nat) : (idT m q).data.toList = Lib.decDigits m ++ 45 :: Lib.decDigits q := by
  simp [idT, decS, ByteArray.data_append]
/-- An identifier's text is read as it. -/
theorem idS_idT (m q seq : Nat) (hm : m < 18446744073709551616) (hq : q < 18446744073709551616) : idS (idT m q) seq = ((m, q), true) := by
  have hc : cutS (idT m q) = (decS m, decS q, true) := by
    unfold cutS
    rw [idT_list, cut_dash _ _ (dec_nodash m).1]
    rfl
  unfold idS
  rw [hc]
  simp [numS_dec m hm, numS_dec q hq]
theorem numS_text {s : ByteArray} (h : (numS s).2 = true) : decS (numS s).1 = s := by
  unfold numS at *
  cases hp : Lib.parseUintB 64 s.data.toList with
  | ok u =>
    rw [hp] at h
    simp only [beq_iff_eq] at h
    rw [ByteArray.toList_eq, ByteArray.toList_eq] at h
    exact ByteArray.ext (Array.toList_inj.1 h)
  | range => rw [hp] at h; cases h
  | _ => rw [hp] at h; cases h
/-- What is read of a text is told as it, or as it with "-0" behind it. -/
theorem idT_idS {s : ByteArray} (h : (idS s 0).2 = true) : idT (idS s 0).1.1 (idS s 0).1.2 = s ∨ idT (idS s 0).1.1 (idS s 0).1.2 = s ++ ⟨#[45, 48]⟩ := by
  have hc : ((numS (cutS s).1).2 && (!(cutS s).2.2 || (numS (cutS s).2.1).2)) = true := by
    unfold idS at h
    split at h
    · next e => exact e
    · cases h
  have e : idS s 0 = (((numS (cutS s).1).1, if (cutS s).2.2 then (numS (cutS s).2.1).1 else 0), true) := by unfold idS; rw [if_pos hc]
  rw [e]
  have h1 := numS_text ((Bool.and_eq_true _ _ ▸ hc).1)
  rcases dash_split s.data.toList with hn | ⟨x, y, hn, hs⟩
  · right
    have hcs : cutS s = (s, ⟨#[]⟩, false) := by
      unfold cutS
      rw [cut_nodash _ hn]
    rw [hcs] at h1 ⊢
    simp only at h1 ⊢
    unfold idT
    rw [h1]
    apply ByteArray.ext
    apply Array.toList_inj.1
    simp [decS, ByteArray.data_append, Lib.decDigits_one]
  · left
    have hcs : cutS s = (⟨x.toArray⟩, ⟨y.toArray⟩, true) := by
      unfold cutS
      rw [hs, cut_dash x y hn]
    rw [hcs] at h1 hc ⊢
    simp only [Bool.not_true, Bool.false_or, Bool.and_eq_true] at hc
    have h2 := numS_text hc.2
    simp only [if_true] at h1 h2 ⊢
    unfold idT
    rw [h1, h2]
    apply ByteArray.ext
    apply Array.toList_inj.1
    rw [hs]
    simp [ByteArray.data_append]
theorem idS_no {s : ByteArray} {seq : Nat} (h : (idS s seq).2 = false) : (idS s seq).1 = (0, 0) := by
  unfold idS at *
  split at h
  · cases h
  · next e => rw [if_neg e]
end Go.Proofs.YtmaemgihhipllaaGreatDoor

/- stream: the object in memory; New, there, below, Len. -/
namespace Go.Proofs.YtmaemgihhipllaaGreatDoor
set_option linter.unusedVariables false
set_option linter.unusedSimpArgs false
open Go.RowKit Sad
def lessN (a b : Nat × Nat) : Bool := decide (a.1 < b.1 ∨ (a.1 = b.1 ∧ a.2 < b.2))
theorem treeLen {w : World} {p : Nat} {G : Nat → Prop} {T : Option RT} {n : Nat} (h : TreeF w p G T n) : Calls Tryz.prog 59 #[.pointer (some ⟨p, 0, none⟩)] w fun e w' => e = .returned (.int .i64 n) ∧ w = w' := by
  obtain ⟨v, h1, _⟩ := h.head
  exact radLen h1
/-- A stream's object: its block, the tree's, the tree's blocks, what the tree holds, how many, the last identifier. -/
structure StmF (w : World) (s p : Nat) (G : Nat → Prop) (T : Option RT) (n ms q : Nat) : Prop where
  head : w.heap[s]? = some (.cells #[ptrV p, .int .u64 ms, .int .u64 q] 63 (0, 0))
  tree : TreeF w p G T n
  own : ¬ G s
  ms_lt : ms < 18446744073709551616
  q_lt : q < 18446744073709551616
theorem StmF.below {w w' : World} {s p : Nat} {G : Nat → Prop} {T : Option RT} {n ms q : Nat} (h : StmF w s p G T n ms q) (hb : Below w.heap.size w w') : StmF w' s p G T n ms q :=
  ⟨(hb.block _ (heap_lt h.head)).trans h.head, h.tree.below hb, h.own, h.ms_lt, h.q_lt⟩
set_option maxHeartbeats 800000 in
set_option maxRecDepth 100000 in
theorem stmNew (w : World) : Calls Tryz.prog 11 #[] w fun e w' => ∃ s p G, e = .returned (ptrV s) ∧ StmF w' s p G none 0 0 0 ∧ Below w.heap.size w w' ∧ w.heap.size ≤ s ∧ ∀ k, G k → w.heap.size ≤ k := by
  obtain ⟨w1, hw1⟩ : ∃ w1, w1 = w.alloc (.cells #[.bool true, .pointer none, .int .i64 0] 94) := ⟨_, rfl⟩
  have hb1 : Below w.heap.size w w1 := by rw [hw1]; exact (Below.refl _ _).alloc (Nat.le_refl _) _
  have hh1 : w1.heap[w.heap.size]? = some (.cells #[.bool true, .pointer none, .int .i64 0] 94 (0, 0)) := by rw [hw1]; exact heap_new _ _
  obtain ⟨w2, hw2⟩ : ∃ w2, w2 = w1.alloc (.cells #[.pointer (some ⟨w.heap.size, 0, none⟩), .int .u64 0, .int .u64 0] 63) := ⟨_, rfl⟩
  have hlt1 := heap_lt hh1
  have hb2 : Below w.heap.size w w2 := by rw [hw2]; exact hb1.alloc hb1.size _
  have hh2 : w2.heap[w1.heap.size]? = some (.cells #[.pointer (some ⟨w.heap.size, 0, none⟩), .int .u64 0, .int .u64 0] 63 (0, 0)) := by rw [hw2]; exact heap_new _ _
  have hh3 : w2.heap[w.heap.size]? = some (.cells #[.bool true, .pointer none, .int .i64 0] 94 (0, 0)) := by rw [hw2]; exact heap_old hh1 _
  have HN := Lib.hid (radNew w)
  have HW1 := Lib.hid hw1
  have HW2 := Lib.hid hw2
  have HE : Hid (StmF w2 w1.heap.size w.heap.size (fun k => k = w.heap.size) none 0 0 0 ∧ Below w.heap.size w w2) := Lib.hid ⟨⟨hh2, ⟨fun k hk => by rw [hk]; exact heap_lt hh3, ⟨hh3, rfl⟩⟩, by omega, by omega, by omega⟩, hb2⟩
  clear hw1 hb1 hh1 hw2 hb2 hh2 hh3
  unfold ptrV at *
  go_enter Tryz.func11, Tryz.ntmps11
  go_wp2_with fail
  refine HN.out.mono ?_
  rintro e w' ⟨rfl, rfl⟩
  rw [← HW1.out]
  go_wp2_with fail
  rw [← HW2.out]
  go_ret
  exact ⟨_, _, _, rfl, HE.out.1, HE.out.2, by omega, fun k hk => by omega⟩
set_option maxHeartbeats 800000 in
set_option maxRecDepth 100000 in
theorem stmThere {w : World} {s p : Nat} {G : Nat → Prop} {T : Option RT} {n ms q : Nat} (h : StmF w s p G T n ms q) :
    Calls Tryz.prog 18 #[ptrV s] w fun e w' => e = .returned (.bool true) ∧ w' = w := by
  have c0 := cell_in h.head (i := 0) rfl
  unfold ptrV at *
  clear h
  go_enter Tryz.func18, Tryz.ntmps18
  go_wp2_with fail
  go_ret
  exact ⟨rfl, rfl⟩
set_option maxHeartbeats 800000 in
set_option maxRecDepth 100000 in
theorem stmBelow (a b c d : Nat) (w : World) : Calls Tryz.prog 20 #[.agg #[.int .u64 a, .int .u64 b], .agg #[.int .u64 c, .int .u64 d]] w fun e w' => e = .returned (.bool (lessN (a, b) (c, d))) ∧ Below w.heap.size w w' := by
  have HL := Lib.hid (show lessN (a, b) (c, d) = (decide (a < c) || (decide (a = c) && decide (b < d))) by simp [lessN])
  rcases Nat.lt_or_ge a c with h1 | h1
  · have e1 := decide_eq_true h1
    have hr : lessN (a, b) (c, d) = true := by rw [HL.out, e1]; rfl
    rw [hr]
    clear h1 hr HL
    go_enter Tryz.func20, Tryz.ntmps20
    go_wp2_with fail
    go_ret
    exact ⟨rfl, ((Below.refl _ _).alloc (Nat.le_refl _) _).alloc (by simp) _⟩
  · have e1 : decide (a < c) = false := by simp; omega
    rcases Decidable.em (a = c) with h2 | h2
    · subst h2
      obtain ⟨v, hv⟩ : ∃ v, decide (b < d) = v := ⟨_, rfl⟩
      have hr : lessN (a, b) (a, d) = v := by rw [HL.out, hv]; simp
      rw [hr]
      clear h1 hr HL
      go_enter Tryz.func20, Tryz.ntmps20
      go_wp2_with fail
      go_ret
      exact ⟨rfl, ((Below.refl _ _).alloc (Nat.le_refl _) _).alloc (by simp) _⟩
    · have e2 : ((a : Int) == (c : Int)) = false := by simp; omega
      have hr : lessN (a, b) (c, d) = false := by rw [HL.out, e1]; simp [h2]
      rw [hr]
      clear h1 hr HL h2
      go_enter Tryz.func20, Tryz.ntmps20
      go_wp2_with fail
      go_ret
      exact ⟨rfl, ((Below.refl _ _).alloc (Nat.le_refl _) _).alloc (by simp) _⟩
set_option maxHeartbeats 800000 in
set_option maxRecDepth 100000 in
theorem stmLen {w : World} {s p : Nat} {G : Nat → Prop} {T : Option RT} {n ms q : Nat} (h : StmF w s p G T n ms q) :
    Calls Tryz.prog 56 #[ptrV s] w fun e w' => e = .returned (.int .i64 n) ∧ w' = w := by
  have c0 := cell_in h.head (i := 0) rfl
  have HT := Lib.hid (stmThere h)
  have HL := Lib.hid (treeLen h.tree)
  unfold ptrV at *
  clear h
  go_enter Tryz.func56, Tryz.ntmps56
  go_wp2_with fail
  refine HT.out.mono ?_
  rintro e w' ⟨rfl, rfl⟩
  go_wp2_with fail
  refine HL.out.mono ?_
  rintro e w' ⟨rfl, rfl⟩
  go_wp2_with fail
  go_ret
  exact ⟨rfl, rfl⟩
end Go.Proofs.YtmaemgihhipllaaGreatDoor

/- rows of pairs; is one of them too long? (slices.ContainsFunc with Add's closure) -/
namespace Go.Proofs.YtmaemgihhipllaaGreatDoor
set_option linter.unusedVariables false
set_option linter.unusedSimpArgs false
open Go.RowKit Sad
abbrev PairT := ByteArray × ByteArray
def e0 : PairT := (⟨#[]⟩, ⟨#[]⟩)
/-- A row of pairs in memory. -/
def PairRow (w : World) (a : Option Addr) (n c : Nat) (L : List PairT) : Prop :=
  L.length = n ∧ n ≤ c ∧ (n = 0 ∨ ∃ b o, a = some ⟨b, o, none⟩ ∧ ∀ i, i < n → w.cell? ⟨b, o + i * 2, none⟩ = some (.string (L.getD i e0).1) ∧ w.cell? ⟨b, o + i * 2 + 1, none⟩ = some (.string (L.getD i e0).2))
theorem PairRow.cells {w : World} {a : Option Addr} {n c : Nat} {L : List PairT} (h : PairRow w a n c L) {i : Nat} (hi : i < n) : ∃ b o, a = some ⟨b, o, none⟩ ∧ b < w.heap.size ∧ w.cell? ⟨b, o + i * 2, none⟩ = some (.string (L.getD i e0).1) ∧ w.cell? ⟨b, o + i * 2 + 1, none⟩ = some (.string (L.getD i e0).2) := by
  obtain ⟨h1, h2, h3⟩ := h
  obtain ⟨b, o, e, hc⟩ := h3.resolve_left (by omega)
  exact ⟨b, o, e, World.block_lt_of_cell? w _ (hc i hi).1, (hc i hi).1, (hc i hi).2⟩
theorem PairRow.chg {w w' : World} {a : Option Addr} {n c : Nat} {L : List PairT} (h : PairRow w a n c L) {S : Nat → Prop} (hc : Chg S w w') (hn : ∀ b o, a = some ⟨b, o, none⟩ → ¬ S b) : PairRow w' a n c L := by
  refine ⟨h.1, h.2.1, ?_⟩
  rcases Nat.eq_zero_or_pos n with h0 | h0
  · exact .inl h0
  · obtain ⟨b, o, e, hk⟩ := h.2.2.resolve_left (by omega)
    refine .inr ⟨b, o, e, fun i hi => ?_⟩
    have hlt := World.block_lt_of_cell? w _ (hk i hi).1
    have hb := hc.block b hlt (hn b o e)
    have e1 : ∀ x, w'.cell? ⟨b, x, none⟩ = w.cell? ⟨b, x, none⟩ := fun x => by unfold World.cell?; simp only [hb]
    rw [e1, e1]
    exact hk i hi
theorem PairRow.below {w w' : World} {a : Option Addr} {n c : Nat} {L : List PairT} (h : PairRow w a n c L) (hb : Below w.heap.size w w') : PairRow w' a n c L := h.chg (Chg.of_below (fun _ => False) hb) fun _ _ _ => id
def longP (p : PairT) : Bool := decide (65536 < p.1.size) || decide (65536 < p.2.size)
set_option maxHeartbeats 800000 in
set_option maxRecDepth 100000 in
theorem add1_any (f v : ByteArray) (w : World) : Calls Tryz.prog 57 #[.agg #[.string f, .string v]] w fun e w' => e = .returned (.bool (longP (f, v))) ∧ Below w.heap.size w w' := by
  have HL := Lib.hid (show longP (f, v) = (decide (65536 < f.size) || decide (65536 < v.size)) from rfl)
  obtain ⟨w1, hw1⟩ : ∃ w1, w1 = w.alloc (.cells #[.string f, .string v] 68) := ⟨_, rfl⟩
  have hb1 : Below w.heap.size w w1 := by rw [hw1]; exact (Below.refl _ _).alloc (Nat.le_refl _) _
  have hh1 : w1.heap[w.heap.size]? = some (.cells #[.string f, .string v] 68 (0, 0)) := by rw [hw1]; exact heap_new _ _
  have c0 := cell_in hh1 (i := 0) rfl
  have c1 := cell_in hh1 (i := 1) rfl
  have HW := Lib.hid hw1
  have HB := Lib.hid hb1
  rcases Nat.lt_or_ge 65536 f.size with h1 | h1
  · have i1 : (65536 : Int) < (f.size : Int) := by omega
    have hr : longP (f, v) = true := by rw [HL.out, decide_eq_true h1]; rfl
    rw [hr]
    clear hw1 hb1 hh1 hr HL h1
    go_enter Tryz.func57, Tryz.ntmps57
    go_wp2_with fail
    rw [← HW.out]
    go_ret
    exact ⟨rfl, HB.out⟩
  · have i1 : (f.size : Int) ≤ 65536 := by omega
    have i2 : ¬ (65536 : Int) < (f.size : Int) := by omega
    obtain ⟨x, hx⟩ : ∃ x, decide ((65536 : Int) < (v.size : Int)) = x := ⟨_, rfl⟩
    have hr : longP (f, v) = x := by rw [HL.out, decide_eq_false (by omega), ← hx, Bool.false_or]; exact decide_eq_decide.2 (by omega)
    rw [hr]
    clear hw1 hb1 hh1 hr HL h1
    go_enter Tryz.func57, Tryz.ntmps57
    go_wp2_with fail
    rw [← HW.out]
    go_ret
    exact ⟨rfl, HB.out⟩
theorem any_take_succ {L : List PairT} {i : Nat} {x : PairT} {q : PairT → Bool} (h : i < L.length) (hx : L.getD i e0 = x) : (L.take (i + 1)).any q = ((L.take i).any q || q x) := by
  have e : L[i] = x := by rw [← hx]; simp [List.getD, h]
  rw [List.take_succ_eq_append_getElem h, List.any_append, e]
  simp
set_option maxHeartbeats 1600000 in
set_option maxRecDepth 100000 in
theorem indexLong {w : World} {a : Option Addr} {n c : Nat} {L : List PairT} (h : PairRow w a n c L) (hn : n ≤ 281474976710656) :
    Calls Tryz.prog 90 #[.slice a n c, .func (.func 57) #[] #[]] w fun e w' => ∃ r : Int, e = .returned (.int .i64 r) ∧ decide (0 ≤ r) = L.any longP ∧ Below w.heap.size w w' := by
  have HR := Lib.hid h
  have hcn := h.2.1
  clear h
  go_enter Tryz.func90, Tryz.ntmps90
  go_wp2_with fail
  go_loopw [8] (fun i wr => ∃ k : Nat, k ≤ n ∧ i = .int .i64 k ∧ Hid ((L.take k).any longP = false ∧ Below w.heap.size w wr)) (fun i _ => n - (intOf i).toNat)
  case atStart => exact ⟨0, Nat.zero_le _, rfl, Lib.hid ⟨rfl, Below.refl _ _⟩⟩
  case round =>
    obtain ⟨k, hk, rfl, hI⟩ := hrel
    by_cases hlt : k < n
    · obtain ⟨b, o, rfl, _, c0, c1⟩ := (HR.out.below hI.out.2).cells hlt
      obtain ⟨f, hf⟩ : ∃ f, (L.getD k e0).1 = f := ⟨_, rfl⟩
      obtain ⟨v, hv⟩ : ∃ v, (L.getD k e0).2 = v := ⟨_, rfl⟩
      have hx : L.getD k e0 = (f, v) := by rw [← hf, ← hv]
      rw [hf] at c0
      rw [hv] at c1
      have hs := any_take_succ (q := longP) (by rw [HR.out.1]; exact hlt) hx
      rw [hI.out.1, Bool.false_or] at hs
      obtain ⟨t, ht⟩ : ∃ t, longP (f, v) = t := ⟨_, rfl⟩
      have HA := Lib.hid (add1_any f v wr)
      rw [ht] at HA hs
      have HS := Lib.hid hs
      clear hf hv hx ht hs
      go_wp2_with fail
      refine HA.out.mono ?_
      rintro e w2 ⟨rfl, b2⟩
      have HB2 := Lib.hid (hI.out.2.trans (b2.mono hI.out.2.size))
      clear b2
      cases t
      case' true =>
        have hany : L.any longP = true := by
          have h1 := HS.out
          rw [List.any_eq_true] at h1 ⊢
          obtain ⟨x, hx1, hx2⟩ := h1
          exact ⟨x, List.mem_of_mem_take hx1, hx2⟩
        have HY := Lib.hid hany
        clear hany
        go_wp2_with fail
        exact bodyPost_ret (results_tmp rfl _ _ _) rfl ⟨(k : Int), rfl, by rw [HY.out]; simp, HB2.out⟩
      case' false =>
        go_wp2_with fail
        go_roundw
        case rel => exact ⟨k + 1, by omega, by go_num, Lib.hid ⟨HS.out, HB2.out⟩⟩
        case measure => simp [intOf]; omega
    · obtain rfl : n = k := by omega
      go_wp2_with fail
      go_ret
      have h1 := hI.out.1
      rw [List.take_of_length_le (by rw [HR.out.1]; exact Nat.le_refl _)] at h1
      exact ⟨-1, rfl, by rw [h1]; rfl, hI.out.2⟩
set_option maxHeartbeats 800000 in
set_option maxRecDepth 100000 in
theorem containsLong {w : World} {a : Option Addr} {n c : Nat} {L : List PairT} (h : PairRow w a n c L) (hn : n ≤ 281474976710656) :
    Calls Tryz.prog 58 #[.slice a n c, .func (.func 57) #[] #[]] w fun e w' => e = .returned (.bool (L.any longP)) ∧ Below w.heap.size w w' := by
  have HI := Lib.hid (indexLong h hn)
  clear h
  go_enter Tryz.func58, Tryz.ntmps58
  go_wp2_with fail
  refine HI.out.mono ?_
  rintro e w2 ⟨r, rfl, hr, b2⟩
  have HR := Lib.hid hr
  have HB := Lib.hid b2
  clear hr b2
  go_wp2_with fail
  go_ret
  exact ⟨by rw [← HR.out]; rfl, HB.out⟩
end Go.Proofs.YtmaemgihhipllaaGreatDoor

/- slices.Clone of a row of pairs. -/
namespace Go.Proofs.YtmaemgihhipllaaGreatDoor
set_option linter.unusedVariables false
set_option linter.unusedSimpArgs false
open Go.RowKit Sad
@[go_sem] theorem eql_pairs_nil (w : World) (a : Option Addr) (n c : Nat) : (binOp .eql 48 (.slice a n c) (.slice none 0 0)).run Tryz.prog w = .ok (.bool a.isNone) w :=
  Lib.run_eql_slice_nil w _ _ a n c 0 0 Tryz.underlying48
theorem info_pair : (Tryz.prog.info? 68).map (fun i => (i.zero, i.size, i.bytes)) = some (some (.agg #[.string ⟨#[]⟩, .string ⟨#[]⟩]), 2, 32) := by kernel_rfl
def pairC (p : PairT) : List Value := [.string p.1, .string p.2]
theorem flatP : ∀ (A : List PairT) (i : Nat) (h : i < A.length) (j : Nat), j < 2 → (A.flatMap pairC).getD (i * 2 + j) undef = (pairC A[i]).getD j undef
  | p :: A, 0, _, j, hj => by
    simp only [List.flatMap_cons, List.getD, Nat.zero_mul, Nat.zero_add, List.getElem_cons_zero]
    rw [List.getElem?_append_left (by simp [pairC]; exact hj)]
  | p :: A, i + 1, h, j, hj => by
    have := flatP A i (by simpa using h) j hj
    simp only [List.flatMap_cons, List.getD, List.getElem_cons_succ] at this ⊢
    rw [List.getElem?_append_right (by simp [pairC]; omega), show (i + 1) * 2 + j - (pairC p).length = i * 2 + j by simp [pairC]; omega]
    exact this
theorem flatP_len : ∀ (A : List PairT), (A.flatMap pairC).length = A.length * 2
  | [] => rfl
  | p :: A => by rw [List.flatMap_cons, List.length_append, flatP_len A]; simp [pairC]; omega
theorem PairRow.of_slice {w : World} {B : Nat} {a : Option Addr} {n c : Nat} {A : List PairT} (h : SliceN w B 68 2 (.slice a n c) n (A.flatMap pairC)) (hn : A.length = n) : PairRow w a n c A := by
  obtain ⟨a', c', he, h1, _⟩ := h.form
  cases he
  refine ⟨hn, h1, ?_⟩
  rcases Nat.eq_zero_or_pos n with h0 | h0
  · exact .inl h0
  · obtain ⟨g, cap, cur, he, _⟩ := h.2.resolve_left (by omega)
    cases he
    refine .inr ⟨g, 0, rfl, fun i hi => ?_⟩
    have e0 := h.cell rfl (i := i * 2) (by omega)
    have e1 := h.cell rfl (i := i * 2 + 1) (by omega)
    have f0 := flatP A i (by omega) 0 (by omega)
    have f1 := flatP A i (by omega) 1 (by omega)
    rw [Nat.add_zero] at f0
    rw [f0] at e0
    rw [f1] at e1
    rw [Nat.zero_add, e0, e1]
    simp [pairC, List.getD, show i < A.length by omega]
set_option maxHeartbeats 800000 in
set_option maxRecDepth 100000 in
theorem clone_whole {w : World} {a : Option Addr} {n c : Nat} {L : List PairT} (h : PairRow w a n c L) (h0 : 0 < n) (hn : n ≤ 4000000000000) :
    Calls Tryz.prog 21 #[.slice a n c] w fun e w' => ∃ b c', e = .returned (.slice (some ⟨b, 0, none⟩) n c') ∧ PairRow w' (some ⟨b, 0, none⟩) n c' L ∧ w.heap.size ≤ b ∧ Below w.heap.size w w' ∧ SliceN w' w.heap.size 68 2 (.slice (some ⟨b, 0, none⟩) n c') n (L.flatMap pairC) := by
  obtain ⟨b, o, rfl, hc⟩ := h.2.2.resolve_left (by omega)
  have hL := h.1
  obtain ⟨w1, hw1⟩ : ∃ w1, w1 = w.alloc (.cells #[] 68) := ⟨_, rfl⟩
  have hb1 : Below w.heap.size w w1 := by rw [hw1]; exact (Below.refl _ _).alloc (Nat.le_refl _) _
  have hh1 : w1.heap[w.heap.size]? = some (.cells #[] 68 (0, 0)) := by rw [hw1]; exact heap_new _ _
  obtain ⟨i0, g1, g2, g3, g4⟩ := info_parts info_pair
  have hs0 : SliceN w1 w.heap.size 68 2 (.slice (some ⟨w.heap.size, 0, none⟩) 0 0) 0 [] := ⟨by simp, .inr ⟨w.heap.size, 0, #[], rfl, Nat.le_refl _, RowAt.of hh1, rfl, Nat.le_refl _, by omega, rfl⟩⟩
  have hnews : ∀ j u, (L.flatMap pairC)[j]? = some u → w1.cell? ((⟨b, o, none⟩ : Addr).add j) = some u := fun j u hu => by
    have hj : j < (L.flatMap pairC).length := by
      rcases Nat.lt_or_ge j (L.flatMap pairC).length with h | h
      · exact h
      · rw [List.getElem?_eq_none h] at hu; cases hu
    rw [flatP_len, hL] at hj
    rw [Addr.add_lit]
    have hi : j / 2 < n := by omega
    have hlt := World.block_lt_of_cell? w _ (hc (j / 2) hi).1
    have hq := flatP L (j / 2) (by omega) (j % 2) (by omega)
    rw [show j / 2 * 2 + j % 2 = j by omega] at hq
    have hgu : (L.flatMap pairC).getD j undef = u := by simp [List.getD, hu]
    have hgL : L.getD (j / 2) e0 = L[j / 2]'(by omega) := by simp [List.getD, show j / 2 < L.length by omega]
    rcases Nat.mod_two_eq_zero_or_one j with h2 | h2
    · have h1 := (hc (j / 2) hi).1
      rw [hb1.cell (p := ⟨b, o + j, none⟩) hlt, show o + j = o + j / 2 * 2 by omega, h1, ← hgu, hq, h2, hgL]
      simp [pairC]
    · have h1 := (hc (j / 2) hi).2
      rw [hb1.cell (p := ⟨b, o + j, none⟩) hlt, show o + j = o + j / 2 * 2 + 1 by omega, h1, ← hgu, hq, h2, hgL]
      simp [pairC]
  obtain ⟨v', W2, hrn, s2, c2, hv2⟩ := run_append_ownN (P := Tryz.prog) (t := 48) (ty := 48) (z := 2) (w := w1) Tryz.underlying48 g1 g2 g3 g4 rfl hs0 hb1.size ⟨b, o, none⟩ n c (L.flatMap pairC) h0 (by rw [flatP_len, hL]) hnews (fun u hu => by
    obtain ⟨x, _, hx⟩ := List.mem_flatMap.1 hu
    simp [pairC] at hx
    rcases hx with rfl | rfl <;> rfl) (by unfold maxLen; omega) (by omega)
  rw [List.nil_append, Nat.zero_add] at s2
  obtain ⟨g, c', cur, rfl, hg, hq⟩ := s2.2.resolve_left (by omega)
  clear hq
  have HR := Lib.hid hrn
  have HE := Lib.hid (show PairRow W2 (some ⟨g, 0, none⟩) n c' L ∧ w.heap.size ≤ g ∧ Below w.heap.size w W2 ∧ SliceN W2 w.heap.size 68 2 (.slice (some ⟨g, 0, none⟩) n c') n (L.flatMap pairC) from
    ⟨PairRow.of_slice s2 hL, hg, belowChg hb1 c2 hb1.size fun k hk _ => (hs0.block_lt hk).1, s2⟩)
  rw [hw1] at HR
  clear hw1 hb1 hh1 hrn s2 c2 hv2 hs0 hnews h hc g1 g2 g3 g4
  go_enter Tryz.func21, Tryz.ntmps21
  go_wp2_with (at_builtin; refine wpList_append_run rfl rfl HR.out ?_)
  go_ret
  exact ⟨_, _, rfl, HE.out.1, HE.out.2.1, HE.out.2.2⟩
theorem clone_any {w : World} {a : Option Addr} {n c : Nat} {L : List PairT} (h : PairRow w a n c L) (h0 : 0 < n) (hn : n ≤ 4000000000000) :
    Calls Tryz.prog 21 #[.slice a n c] w fun e w' => ∃ b c', e = .returned (.slice (some ⟨b, 0, none⟩) n c') ∧ PairRow w' (some ⟨b, 0, none⟩) n c' L ∧ w.heap.size ≤ b ∧ Below w.heap.size w w' :=
  (clone_whole h h0 hn).mono fun e w' ⟨b, c', h1, h2, h3, h4, _⟩ => ⟨b, c', h1, h2, h3, h4⟩
end Go.Proofs.YtmaemgihhipllaaGreatDoor

/- (*stream.Stream).Add. -/
namespace Go.Proofs.YtmaemgihhipllaaGreatDoor
set_option linter.unusedVariables false
set_option linter.unusedSimpArgs false
open Go.RowKit Sad
set_option maxHeartbeats 3200000 in
set_option maxRecDepth 100000 in
/-- An entry that may not be: it has no pair, one too long, or its identifier is not above the last one. -/
theorem addBad {w : World} {s p : Nat} {G : Nat → Prop} {T : Option RT} {n ms q : Nat} (h : StmF w s p G T n ms q) {a : Option Addr} {k c : Nat} {L : List PairT} (hp : PairRow w a k c L) (hk : k ≤ 281474976710656) (im iq : Nat)
    (hbad : k = 0 ∨ L.any longP = true ∨ lessN (ms, q) (im, iq) = false) :
    Calls Tryz.prog 15 #[ptrV s, .agg #[.int .u64 im, .int .u64 iq, .slice a k c]] w fun e w' => e = .returned (.int .i64 1) ∧ Below w.heap.size w w' := by
  obtain ⟨w1, hw1⟩ : ∃ w1, w1 = w.alloc (.cells #[.int .u64 im, .int .u64 iq, .slice a k c] 50) := ⟨_, rfl⟩
  have hb1 : Below w.heap.size w w1 := by rw [hw1]; exact (Below.refl _ _).alloc (Nat.le_refl _) _
  have hh1 : w1.heap[w.heap.size]? = some (.cells #[.int .u64 im, .int .u64 iq, .slice a k c] 50 (0, 0)) := by rw [hw1]; exact heap_new _ _
  have hlt1 := heap_lt hh1
  have h1 := h.below hb1
  have HC := Lib.hid (show ∀ w', Below w1.heap.size w1 w' → (w'.cell? ⟨s, 1, none⟩ = some (.int .u64 ms) ∧ w'.cell? ⟨s, 2, none⟩ = some (.int .u64 q)) ∧ (w'.cell? ⟨w.heap.size, 0, none⟩ = some (.int .u64 im) ∧ w'.cell? ⟨w.heap.size, 1, none⟩ = some (.int .u64 iq)) ∧ w'.cell? ⟨w.heap.size, 2, none⟩ = some (.slice a k c) from fun w' hb => by
    have e1 := (hb.block _ (heap_lt h1.head)).trans h1.head
    have e2 := (hb.block _ hlt1).trans hh1
    exact ⟨⟨cell_in e1 rfl, cell_in e1 rfl⟩, ⟨cell_in e2 rfl, cell_in e2 rfl⟩, cell_in e2 rfl⟩)
  have HT := Lib.hid (stmThere h1)
  have HL := Lib.hid (fun w' (hb : Below w1.heap.size w1 w') => containsLong ((hp.below hb1).below hb) hk)
  have HBl := Lib.hid (fun w' => stmBelow ms q im iq w')
  have HW := Lib.hid hw1
  have HB1 := Lib.hid hb1
  obtain ⟨x, hx⟩ : ∃ x, L.any longP = x := ⟨_, rfl⟩
  obtain ⟨y, hy⟩ : ∃ y, lessN (ms, q) (im, iq) = y := ⟨_, rfl⟩
  rw [hx] at HL hbad
  rw [hy] at HBl hbad
  obtain ⟨c0, c1⟩ := HC.out w1 (Below.refl _ _)
  obtain ⟨X1, f, hX1, hf, hF⟩ := classOf (fun x => (x.cell? ⟨s, 1, none⟩ = some (.int .u64 ms) ∧ x.cell? ⟨s, 2, none⟩ = some (.int .u64 q)) ∧ (x.cell? ⟨w.heap.size, 0, none⟩ = some (.int .u64 im) ∧ x.cell? ⟨w.heap.size, 1, none⟩ = some (.int .u64 iq)) ∧ x.cell? ⟨w.heap.size, 2, none⟩ = some (.slice a k c)) (w := w1) ⟨c0, c1⟩
  have f1 := fun x => (hf x).1.1
  have f2 := fun x => (hf x).1.2
  have f3 := fun x => (hf x).2.1.1
  have f4 := fun x => (hf x).2.1.2
  have f5 := fun x => (hf x).2.2
  have HF1 := Lib.hid hF
  have HFa := Lib.hid (hF w1.drew ⟨c0, c1⟩)
  clear hF hf hp h hw1 hb1 hh1 h1 hx hy c0 c1 hlt1
  unfold ptrV at *
  rcases Nat.eq_zero_or_pos k with hk0 | hk0
  · have ek : ((k : Int) == 0) = true := by simp; omega
    clear hbad hk0
    go_enter Tryz.func15, Tryz.ntmps15
    go_wp2_with fail
    rw [← HW.out]
    refine HT.out.mono ?_
    rintro e w' ⟨rfl, hww⟩
    rw [hww]
    clear hww w'
    go_upto_region 4 with (fail)
    refine wp_region_text ⟨[8, 17], [18, 19], 17⟩ (fun w' => ∃ x : X1, w' = f x) (by kernel_rfl) (by kernel_rfl) HFa.out ?_
    refine wpC_seg false (HFa.out) 8 0 _ _ (by rfl) (by rfl) ?_
    simp only [List.take_succ_cons, List.take_zero, List.drop_succ_cons, List.drop_zero, Bool.false_eq_true, if_false, Nat.zero_add, Nat.reduceAdd]
    repeat (go_big_quiet_step (fail))
    refine wpQuiet_nil ?_
    refine wpC_skip (by rfl) (by rfl) (fun _ => HFa.out) ?_
    simp only [Act.put, List.setIfInBounds_toArray, List.set_cons_succ, List.set_cons_zero]
    refine wpC_seg false (HFa.out) 8 9 _ _ (by rfl) (by rfl) ?_
    simp only [List.take_succ_cons, List.take_zero, List.drop_succ_cons, List.drop_zero, Bool.false_eq_true, if_false, Nat.zero_add, Nat.reduceAdd]
    repeat (go_big_quiet_step (fail))
    refine wpQuiet_nil ?_
    refine wpC_skip (by rfl) (by rfl) (fun h => absurd h (by decide)) ?_
    simp only [Act.put, List.setIfInBounds_toArray, List.set_cons_succ, List.set_cons_zero]
    refine wpC_segD 2 18 _ _ (by rfl) (by rfl) ?_
    simp only [List.take_succ_cons, List.take_zero, List.drop_succ_cons, List.drop_zero, if_true, Nat.zero_add, Nat.reduceAdd]
    repeat (go_big_quiet_step (fail))
    refine wpQuiet_nil ?_
    refine wpC_nil ?_
    clear f1 f2 f3 f4 f5 hX1 HF1 HFa f
    go_wp2_with fail
    go_ret
    exact ⟨rfl, HB1.out.trans ((belowN (Below.refl _ _) 1).mono HB1.out.size)⟩
  · have ek : ((k : Int) == 0) = false := by simp; omega
    have hxy : x = true ∨ y = false := hbad.resolve_left (by omega)
    clear hbad hk0
    cases x
    case' true =>
      clear hxy
      go_enter Tryz.func15, Tryz.ntmps15
      go_wp2_with fail
      rw [← HW.out]
      refine HT.out.mono ?_
      rintro e w' ⟨rfl, hww⟩
      rw [hww]
      clear hww w'
      go_upto_region 4 with (fail)
      refine wp_region_text ⟨[8, 17], [18, 19], 17⟩ (fun w' => ∃ x : X1, w' = f x) (by kernel_rfl) (by kernel_rfl) HFa.out ?_
      refine wpC_seg false (HFa.out) 8 0 _ _ (by rfl) (by rfl) ?_
      simp only [List.take_succ_cons, List.take_zero, List.drop_succ_cons, List.drop_zero, Bool.false_eq_true, if_false, Nat.zero_add, Nat.reduceAdd]
      repeat (go_big_quiet_step (fail))
      refine wpQuiet_nil ?_
      refine wpC_loud (by rfl) (by rfl) fun K hK => ?_
      go_wp2_with fail
      refine (HL.out _ (belowN (Below.refl _ _) 1)).mono ?_
      rintro e w2 ⟨rfl, b2⟩
      have HB2 := Lib.hid ((belowN (Below.refl w1.heap.size w1) 1).trans b2)
      have HF2 := Lib.hid (HF1.out w2 (HC.out w2 HB2.out))
      refine hK _ _ (fun _ => HF2.out) ?_
      clear hK b2
      refine wpC_seg false (HF2.out) 8 9 _ _ (by rfl) (by rfl) ?_
      simp only [List.take_succ_cons, List.take_zero, List.drop_succ_cons, List.drop_zero, Bool.false_eq_true, if_false, Nat.zero_add, Nat.reduceAdd]
      repeat (go_big_quiet_step (fail))
      refine wpQuiet_nil ?_
      refine wpC_skip (by rfl) (by rfl) (fun h => absurd h (by decide)) ?_
      simp only [Act.put, List.setIfInBounds_toArray, List.set_cons_succ, List.set_cons_zero]
      refine wpC_segD 2 18 _ _ (by rfl) (by rfl) ?_
      simp only [List.take_succ_cons, List.take_zero, List.drop_succ_cons, List.drop_zero, if_true, Nat.zero_add, Nat.reduceAdd]
      repeat (go_big_quiet_step (fail))
      refine wpQuiet_nil ?_
      refine wpC_nil ?_
      clear f1 f2 f3 f4 f5 hX1 HF1 HFa HF2 f
      go_wp2_with fail
      go_ret
      exact ⟨rfl, HB1.out.trans (HB2.out.mono HB1.out.size)⟩
    case' false =>
      obtain rfl : y = false := hxy.resolve_left (by decide)
      clear hxy
      go_enter Tryz.func15, Tryz.ntmps15
      go_wp2_with fail
      rw [← HW.out]
      refine HT.out.mono ?_
      rintro e w' ⟨rfl, hww⟩
      rw [hww]
      clear hww w'
      go_upto_region 4 with (fail)
      refine wp_region_text ⟨[8, 17], [18, 19], 17⟩ (fun w' => ∃ x : X1, w' = f x) (by kernel_rfl) (by kernel_rfl) HFa.out ?_
      refine wpC_seg false (HFa.out) 8 0 _ _ (by rfl) (by rfl) ?_
      simp only [List.take_succ_cons, List.take_zero, List.drop_succ_cons, List.drop_zero, Bool.false_eq_true, if_false, Nat.zero_add, Nat.reduceAdd]
      repeat (go_big_quiet_step (fail))
      refine wpQuiet_nil ?_
      refine wpC_loud (by rfl) (by rfl) fun K hK => ?_
      go_wp2_with fail
      refine (HL.out _ (belowN (Below.refl _ _) 1)).mono ?_
      rintro e w2 ⟨rfl, b2⟩
      have HB2 := Lib.hid ((belowN (Below.refl w1.heap.size w1) 1).trans b2)
      have HF2 := Lib.hid (HF1.out w2 (HC.out w2 HB2.out))
      refine hK _ _ (fun _ => HF2.out) ?_
      clear hK b2
      refine wpC_seg false (HF2.out) 8 9 _ _ (by rfl) (by rfl) ?_
      simp only [List.take_succ_cons, List.take_zero, List.drop_succ_cons, List.drop_zero, Bool.false_eq_true, if_false, Nat.zero_add, Nat.reduceAdd]
      repeat (go_big_quiet_step (fail))
      refine wpQuiet_nil ?_
      refine wpC_loud (by rfl) (by rfl) fun K hK => ?_
      go_wp2_with fail
      refine (HBl.out _).mono ?_
      rintro e w3 ⟨rfl, b3⟩
      have HB3 := Lib.hid (HB2.out.trans (b3.mono HB2.out.size))
      refine hK _ _ (fun h => absurd h (by decide)) ?_
      clear hK b3
      refine wpC_segD 2 18 _ _ (by rfl) (by rfl) ?_
      simp only [List.take_succ_cons, List.take_zero, List.drop_succ_cons, List.drop_zero, if_true, Nat.zero_add, Nat.reduceAdd]
      repeat (go_big_quiet_step (fail))
      refine wpQuiet_nil ?_
      refine wpC_nil ?_
      clear f1 f2 f3 f4 f5 hX1 HF1 HFa HF2 f
      go_wp2_with fail
      go_ret
      exact ⟨rfl, HB1.out.trans (HB3.out.mono HB1.out.size)⟩
end Go.Proofs.YtmaemgihhipllaaGreatDoor

/- (*stream.Stream).Add of an entry that may be. -/
namespace Go.Proofs.YtmaemgihhipllaaGreatDoor
set_option linter.unusedVariables false
set_option linter.unusedSimpArgs false
open Go.RowKit Sad
set_option maxHeartbeats 6400000 in
set_option maxRecDepth 100000 in
/-- An entry that may be, and there is room: a copy of its pairs stands in the tree. -/
theorem addGood {w : World} {s p : Nat} {G : Nat → Prop} {T : Option RT} {n ms q : Nat} (h : StmF w s p G T n ms q) {a : Option Addr} {k c : Nat} {L : List PairT} (hp : PairRow w a k c L) (hk : k ≤ 4000000000000) {im iq : Nat} (him : im < 18446744073709551616) (hiq : iq < 18446744073709551616)
    (hk0 : 0 < k) (hx : L.any longP = false) (hy : lessN (ms, q) (im, iq) = true) (hn : n < 1048576) :
    Calls Tryz.prog 15 #[ptrV s, .agg #[.int .u64 im, .int .u64 iq, .slice a k c]] w fun e w' => e = .returned (.int .i64 0) ∧ ∃ G' b c', StmF w' s p G' (putO T (idBytes im iq) (some ⟨b, 0, none⟩, k, c')) (if (lookO T (idBytes im iq)).isNone then n + 1 else n) im iq ∧ PairRow w' (some ⟨b, 0, none⟩) k c' L ∧ w.heap.size ≤ b ∧ ¬ G' b ∧ (∀ j, G' j → G j ∨ w.heap.size ≤ j) ∧ Chg (fun j => G j ∨ j = s) w w' := by
  obtain ⟨w1, hw1⟩ : ∃ w1, w1 = w.alloc (.cells #[.int .u64 im, .int .u64 iq, .slice a k c] 50) := ⟨_, rfl⟩
  have hb1 : Below w.heap.size w w1 := by rw [hw1]; exact (Below.refl _ _).alloc (Nat.le_refl _) _
  have hh1 : w1.heap[w.heap.size]? = some (.cells #[.int .u64 im, .int .u64 iq, .slice a k c] 50 (0, 0)) := by rw [hw1]; exact heap_new _ _
  have hlt1 := heap_lt hh1
  have h1 := h.below hb1
  have HC := Lib.hid (show ∀ w', Below w1.heap.size w1 w' → (w'.cell? ⟨s, 1, none⟩ = some (.int .u64 ms) ∧ w'.cell? ⟨s, 2, none⟩ = some (.int .u64 q) ∧ w'.cell? ⟨s, 0, none⟩ = some (ptrV p)) ∧ (w'.cell? ⟨w.heap.size, 0, none⟩ = some (.int .u64 im) ∧ w'.cell? ⟨w.heap.size, 1, none⟩ = some (.int .u64 iq)) ∧ w'.cell? ⟨w.heap.size, 2, none⟩ = some (.slice a k c) from fun w' hb => by
    have e1 := (hb.block _ (heap_lt h1.head)).trans h1.head
    have e2 := (hb.block _ hlt1).trans hh1
    exact ⟨⟨cell_in e1 rfl, cell_in e1 rfl, cell_in e1 rfl⟩, ⟨cell_in e2 rfl, cell_in e2 rfl⟩, cell_in e2 rfl⟩)
  have HT := Lib.hid (stmThere h1)
  have HL := Lib.hid (fun w' (hb : Below w1.heap.size w1 w') => containsLong ((hp.below hb1).below hb) (by omega))
  have HBl := Lib.hid (fun w' => stmBelow ms q im iq w')
  have HW := Lib.hid hw1
  have HB1 := Lib.hid hb1
  obtain ⟨bo, hbo⟩ : ∃ bo, (lookO T (idBytes im iq)).isNone = bo := ⟨_, rfl⟩
  obtain ⟨N', hN'⟩ : ∃ N', (if bo then n + 1 else n) = N' := ⟨_, rfl⟩
  rw [hbo, hN']
  have HBO := Lib.hid (And.intro hbo hN')
  clear hbo hN'
  rw [hx] at HL
  rw [hy] at HBl
  have HH := Lib.hid h
  have HH1 := Lib.hid h1
  have HP := Lib.hid (hp.below hb1)
  have HX := Lib.hid (And.intro him (And.intro hiq (And.intro hk hh1)))
  have ek : ((k : Int) == 0) = false := by simp; omega
  have HLs := Lib.hid (And.intro (heap_lt h.head) trivial)
  obtain ⟨c0, c1⟩ := HC.out w1 (Below.refl _ _)
  obtain ⟨X1, f, hX1, hf, hF⟩ := classOf (fun x => (x.cell? ⟨s, 1, none⟩ = some (.int .u64 ms) ∧ x.cell? ⟨s, 2, none⟩ = some (.int .u64 q) ∧ x.cell? ⟨s, 0, none⟩ = some (ptrV p)) ∧ (x.cell? ⟨w.heap.size, 0, none⟩ = some (.int .u64 im) ∧ x.cell? ⟨w.heap.size, 1, none⟩ = some (.int .u64 iq)) ∧ x.cell? ⟨w.heap.size, 2, none⟩ = some (.slice a k c)) (w := w1) ⟨c0, c1⟩
  have f1 := fun x => (hf x).1.1
  have f2 := fun x => (hf x).1.2.1
  have f6 := fun x => (hf x).1.2.2
  have f3 := fun x => (hf x).2.1.1
  have f4 := fun x => (hf x).2.1.2
  have f5 := fun x => (hf x).2.2
  have HF1 := Lib.hid hF
  have HFa := Lib.hid (hF w1.drew ⟨c0, c1⟩)
  clear hF hf hp h hw1 hb1 hh1 h1 hx hy c0 c1 hlt1 hk0 him hiq hk
  unfold ptrV at *
  go_enter Tryz.func15, Tryz.ntmps15
  go_wp2_with fail
  rw [← HW.out]
  refine HT.out.mono ?_
  rintro e w' ⟨rfl, hww⟩
  rw [hww]
  clear hww w'
  go_upto_region 4 with (fail)
  refine wp_region_text ⟨[8, 17], [18, 19], 17⟩ (fun w' => ∃ x : X1, w' = f x) (by kernel_rfl) (by kernel_rfl) HFa.out ?_
  refine wpC_seg false (HFa.out) 8 0 _ _ (by rfl) (by rfl) ?_
  simp only [List.take_succ_cons, List.take_zero, List.drop_succ_cons, List.drop_zero, Bool.false_eq_true, if_false, Nat.zero_add, Nat.reduceAdd]
  repeat (go_big_quiet_step (fail))
  refine wpQuiet_nil ?_
  refine wpC_loud (by rfl) (by rfl) fun K hK => ?_
  go_wp2_with fail
  refine (HL.out _ (belowN (Below.refl _ _) 1)).mono ?_
  rintro e w2 ⟨rfl, b2⟩
  have HB2 := Lib.hid ((belowN (Below.refl w1.heap.size w1) 1).trans b2)
  have HF2 := Lib.hid (HF1.out w2 (HC.out w2 HB2.out))
  refine hK _ _ (fun _ => HF2.out) ?_
  clear hK b2
  refine wpC_seg false (HF2.out) 8 9 _ _ (by rfl) (by rfl) ?_
  simp only [List.take_succ_cons, List.take_zero, List.drop_succ_cons, List.drop_zero, Bool.false_eq_true, if_false, Nat.zero_add, Nat.reduceAdd]
  repeat (go_big_quiet_step (fail))
  refine wpQuiet_nil ?_
  refine wpC_loud (by rfl) (by rfl) fun K hK => ?_
  go_wp2_with fail
  refine (HBl.out _).mono ?_
  rintro e w3 ⟨rfl, b3⟩
  have HB3 := Lib.hid (HB2.out.trans (b3.mono HB2.out.size))
  refine hK _ _ (fun h => absurd h (by decide)) ?_
  clear hK b3
  refine wpC_segD 2 18 _ _ (by rfl) (by rfl) ?_
  simp only [List.take_succ_cons, List.take_zero, List.drop_succ_cons, List.drop_zero, if_true, Nat.zero_add, Nat.reduceAdd]
  repeat (go_big_quiet_step (fail))
  refine wpQuiet_nil ?_
  refine wpC_nil ?_
  obtain ⟨⟨d1, d2, d0⟩, d3⟩ := HC.out w3 HB3.out
  have HLn := Lib.hid (treeLen (HH1.out.below HB3.out).tree)
  have ed1 : decide ((1048576 : Int) ≤ (n : Int)) = false := decide_eq_false (by omega)
  have ed2 : decide ((n : Int) ≥ (1048576 : Int)) = false := decide_eq_false (by omega)
  have HN := Lib.hid (And.intro hn trivial)
  clear hn
  unfold ptrV at *
  go_wp2_with fail
  refine HLn.out.mono ?_
  rintro e w' ⟨rfl, hww⟩
  rw [← hww]
  clear hww w'
  go_upto_region 8 with (fail)
  have HFb := Lib.hid (HF1.out w3.drew (HC.out w3.drew (belowN HB3.out 1)))
  refine wp_region_text ⟨[8, 9], [], 9⟩ (fun w' => ∃ x : X1, w' = f x) (by kernel_rfl) (by kernel_rfl) HFb.out ?_
  refine wpC_seg false (HFb.out) 8 0 _ _ (by rfl) (by rfl) ?_
  simp only [List.take_succ_cons, List.take_zero, List.drop_succ_cons, List.drop_zero, Bool.false_eq_true, if_false, Nat.zero_add, Nat.reduceAdd]
  repeat (go_big_quiet_step (fail))
  refine wpQuiet_nil ?_
  refine wpC_loud (by rfl) (by rfl) fun K hK => ?_
  go_wp2_with fail
  refine (clone_any ((HP.out.below HB3.out).below (belowN (Below.refl w3.heap.size w3) 1)) (by simp at ek; omega) HX.out.2.2.1).mono ?_
  rintro e w4 ⟨b, c', rfl, hpr, hb, b4⟩
  have HB4 := Lib.hid ((belowN HB3.out 1).trans (b4.mono (belowN HB3.out 1).size))
  have HF4 := Lib.hid (HF1.out w4 (HC.out w4 HB4.out))
  refine hK _ _ (fun _ => HF4.out) ?_
  have HPr := Lib.hid (And.intro hpr hb)
  clear hK b4 hpr hb
  refine wpC_loud (by rfl) (by rfl) fun K hK => ?_
  go_wp2_with fail
  have ht4 := (HH1.out.below HB4.out).tree
  refine (radPut ht4 HX.out.1 HX.out.2.1 (some ⟨b, 0, none⟩, k, c') (by have := HN.out.1; omega)).mono ?_
  rintro e w5 ⟨rfl, G', t5, fr5, c5⟩
  rw [HBO.out.1, HBO.out.2] at t5
  rw [HBO.out.1]
  refine hK _ _ (fun h => absurd h (by decide)) ?_
  clear hK
  refine wpC_nil ?_
  have hG := HH.out.tree.1
  have hls := HLs.out.1
  have hb1s := HB1.out.size
  have hb3s := HB3.out.size
  have hb4s := HB4.out.size
  have hs4 := (HB4.out.block s (by omega)).trans HH1.out.head
  have hs5 := c5.keep hs4 HH.out.own
  have he4 := (HB4.out.block _ (heap_lt HX.out.2.2.2)).trans HX.out.2.2.2
  have he5 := c5.keep he4 (fun hg => by have := hG _ hg; omega)
  have h6 := setCell_head hs5 1 (.int .u64 im)
  have h7 := setCell_head h6 2 (.int .u64 iq)
  have z0 := cell_in he5 (i := 0) rfl
  have z1 := cell_in he5 (i := 1) rfl
  have y1 := cell_in hs5 (i := 1) rfl
  have y2 := cell_in h6 (i := 2) rfl
  have fr1 := frozen_in hs5 1
  have fr2 := frozen_in h6 2
  obtain ⟨w7, hw7⟩ : ∃ w7, w7 = (w5.setCell ⟨s, 1, none⟩ (.int .u64 im)).setCell ⟨s, 2, none⟩ (.int .u64 iq) := ⟨_, rfl⟩
  have hhd : w7.heap[s]? = some (.cells #[ptrV p, .int .u64 im, .int .u64 iq] 63 (0, 0)) := by rw [hw7]; exact h7
  have cS : Chg (fun j => j = s) w5 w7 := by rw [hw7]; exact (Chg.setCell (fun j => j = s) w5 _ _ rfl).trans (Chg.setCell (fun j => j = s) _ _ _ rfl) fun _ h _ => h
  have hbb : w.heap.size ≤ b ∧ b < w4.heap.size := by
    have h1 := HPr.out.2
    simp at h1
    obtain ⟨b', o', e, hlt, _⟩ := HPr.out.1.cells (i := 0) (by simp at ek; omega)
    cases e
    exact ⟨by omega, hlt⟩
  have hfr : ∀ j, G' j → G j ∨ w.heap.size ≤ j := fun j hj => (fr5 j hj).imp id fun h => by omega
  have hG's : ∀ j, G' j → j ≠ s := fun j hj e => by
    rcases fr5 j hj with h | h
    · rw [e] at h; exact HH.out.own h
    · omega
  have hG'b : ¬ G' b := fun hj => by
    rcases fr5 b hj with h | h
    · have := hG _ h; omega
    · omega
  have HE := Lib.hid (show StmF w7 s p G' (putO T (idBytes im iq) (some ⟨b, 0, none⟩, k, c')) N' im iq ∧ PairRow w7 (some ⟨b, 0, none⟩) k c' L ∧ w.heap.size ≤ b ∧ ¬ G' b ∧ (∀ j, G' j → G j ∨ w.heap.size ≤ j) ∧ Chg (fun j => G j ∨ j = s) w w7 from
    ⟨⟨hhd, t5.chg cS hG's, fun hj => hG's _ hj rfl, HX.out.1, HX.out.2.1⟩,
      (HPr.out.1.chg c5 (fun b' o' e h => by cases e; have := hG _ h; omega)).chg cS (fun b' o' e h => by cases e; omega),
      hbb.1, hG'b, hfr,
      ((Chg.of_below (fun j => G j ∨ j = s) (HB1.out.trans (HB4.out.mono HB1.out.size))).trans c5 fun j h _ => .inl h).trans cS fun j h _ => .inr h⟩)
  have HW7 := Lib.hid hw7
  clear f1 f2 f3 f4 f5 f6 hX1 HF1 HFa HFb HF2 HF4 f hw7 hhd cS hG hs4 hs5 he4 he5 h6 h7 t5 fr5 c5 ht4 hfr hG's hG'b hbb d0 d1 d2 d3
  go_wp2_with fail
  rw [← HW7.out]
  go_ret
  exact ⟨rfl, _, _, _, HE.out⟩
end Go.Proofs.YtmaemgihhipllaaGreatDoor

/- (*stream.Stream).Next. -/
namespace Go.Proofs.YtmaemgihhipllaaGreatDoor
set_option linter.unusedVariables false
set_option linter.unusedSimpArgs false
open Go.RowKit Sad
def nextN (ms q : Nat) (now : Int) : (Nat × Nat) × Bool :=
  if lessN (ms, q) (now.toNat, 0) then ((now.toNat, 0), true)
  else if q < 18446744073709551615 then ((ms, q + 1), true)
  else if ms < 18446744073709551615 then ((ms + 1, 0), true)
  else ((0, 0), false)
set_option maxHeartbeats 6400000 in
set_option maxRecDepth 100000 in
theorem stmNext {w : World} {s p : Nat} {G : Nat → Prop} {T : Option RT} {n ms q : Nat} (h : StmF w s p G T n ms q) {now : Int} (hlo : -9223372036854775808 ≤ now) (hhi : now ≤ 9223372036854775807) :
    Calls Tryz.prog 50 #[ptrV s, .int .i64 now] w fun e w' => e = .returned (.tuple #[.agg #[.int .u64 (nextN ms q now).1.1, .int .u64 (nextN ms q now).1.2], .bool (nextN ms q now).2]) ∧ Below w.heap.size w w' := by
  obtain ⟨w1, hw1⟩ : ∃ w1, w1 = w.alloc (.cells #[.int .u64 0, .int .u64 0] 41) := ⟨_, rfl⟩
  have hb1 : Below w.heap.size w w1 := by rw [hw1]; exact (Below.refl _ _).alloc (Nat.le_refl _) _
  have hh1 : w1.heap[w.heap.size]? = some (.cells #[.int .u64 0, .int .u64 0] 41 (0, 0)) := by rw [hw1]; exact heap_new _ _
  have h1 := h.below hb1
  have HT := Lib.hid (stmThere h1)
  obtain ⟨u, hu⟩ : ∃ u, now.toNat = u := ⟨_, rfl⟩
  have hmx : max now 0 = (u : Int) := by omega
  have hwr : IntKind.u64.wrap (max now 0) = (u : Int) := by rw [hmx, IntKind.wrap_u64]; omega
  have hwr2 : IntKind.u64.wrap (u : Int) = (u : Int) := by rw [IntKind.wrap_u64]; omega
  have hz1 : w1.heap.size = w.heap.size + 1 := by rw [hw1]; simp
  obtain ⟨w2, hw2⟩ : ∃ w2, w2 = (w.alloc (.cells #[.int .u64 0, .int .u64 0] 41)).alloc (.cells #[.int .u64 u, .int .u64 0] 41) := ⟨_, rfl⟩
  have hb2 : Below w.heap.size w w2 := by rw [hw2]; exact ((Below.refl _ _).alloc (Nat.le_refl _) _).alloc (by simp) _
  have hh2 : w2.heap[w.heap.size + 1]? = some (.cells #[.int .u64 u, .int .u64 0] 41 (0, 0)) := by rw [hw2, ← hw1, ← hz1]; exact heap_new _ _
  have hh0 : w2.heap[w.heap.size]? = some (.cells #[.int .u64 0, .int .u64 0] 41 (0, 0)) := by rw [hw2, ← hw1]; exact heap_old hh1 _
  have hlt0 := heap_lt hh0
  have hlt2 := heap_lt hh2
  have h2 := h.below hb2
  have HC := Lib.hid (show ∀ w', Below w2.heap.size w2 w' → (w'.cell? ⟨s, 1, none⟩ = some (.int .u64 ms) ∧ w'.cell? ⟨s, 2, none⟩ = some (.int .u64 q)) ∧ w'.cell? ⟨w.heap.size + 1, 0, none⟩ = some (.int .u64 u) ∧ w'.cell? ⟨w.heap.size + 1, 1, none⟩ = some (.int .u64 (0 : Nat)) from fun w' hb => by
    have e1 := (hb.block _ (heap_lt h2.head)).trans h2.head
    have e2 := (hb.block _ hlt2).trans hh2
    exact ⟨⟨cell_in e1 rfl, cell_in e1 rfl⟩, cell_in e2 rfl, cell_in e2 rfl⟩)
  have HBl := Lib.hid (fun w' => stmBelow ms q u 0 w')
  have HEnd : Hid (∀ w' x y, Below w2.heap.size w2 w' → (((w'.setCell ⟨w.heap.size, 0, none⟩ x).setCell ⟨w.heap.size, 1, none⟩ y).cell? ⟨w.heap.size, 0, none⟩ = some x ∧ ((w'.setCell ⟨w.heap.size, 0, none⟩ x).setCell ⟨w.heap.size, 1, none⟩ y).cell? ⟨w.heap.size, 1, none⟩ = some y) ∧ Below w.heap.size w ((w'.setCell ⟨w.heap.size, 0, none⟩ x).setCell ⟨w.heap.size, 1, none⟩ y)) := Lib.hid fun w' x y hb => by
    have h0 := (hb.block _ hlt0).trans hh0
    have h1 := setCell_head h0 0 x
    have h2 := setCell_head h1 1 y
    have bb := hb2.trans (hb.mono hb2.size)
    exact ⟨⟨cell_in h2 rfl, cell_in h2 rfl⟩, (bb.setCell (Nat.le_refl _) _).setCell (Nat.le_refl _) _⟩
  have HOld : Hid (∀ w', Below w2.heap.size w2 w' → (w'.cell? ⟨w.heap.size, 0, none⟩ = some (.int .u64 0) ∧ w'.frozen? ⟨w.heap.size, 0, none⟩ = false) ∧ ∀ x, (w'.setCell ⟨w.heap.size, 0, none⟩ x).cell? ⟨w.heap.size, 1, none⟩ = some (.int .u64 0) ∧ (w'.setCell ⟨w.heap.size, 0, none⟩ x).frozen? ⟨w.heap.size, 1, none⟩ = false) := Lib.hid fun w' hb => by
    have h0 := (hb.block _ hlt0).trans hh0
    exact ⟨⟨cell_in h0 rfl, frozen_in h0 0⟩, fun x => ⟨cell_in (setCell_head h0 0 x) rfl, frozen_in (setCell_head h0 0 x) 1⟩⟩
  have hms := h.ms_lt
  have hq := h.q_lt
  have hnx : nextN ms q now = if lessN (ms, q) (u, 0) then ((u, 0), true) else if q < 18446744073709551615 then ((ms, q + 1), true) else if ms < 18446744073709551615 then ((ms + 1, 0), true) else ((0, 0), false) := by unfold nextN; rw [hu]
  obtain ⟨y, hy⟩ : ∃ y, lessN (ms, q) (u, 0) = y := ⟨_, rfl⟩
  rw [hy] at HBl hnx
  obtain ⟨c0, c1⟩ := HC.out w2 (Below.refl _ _)
  obtain ⟨X1, f, hX1, hf, hF⟩ := classOf (fun x => (x.cell? ⟨s, 1, none⟩ = some (.int .u64 ms) ∧ x.cell? ⟨s, 2, none⟩ = some (.int .u64 q)) ∧ x.cell? ⟨w.heap.size + 1, 0, none⟩ = some (.int .u64 u) ∧ x.cell? ⟨w.heap.size + 1, 1, none⟩ = some (.int .u64 (0 : Nat))) (w := w2) ⟨c0, c1⟩
  have f1 := fun x => (hf x).1.1
  have f2 := fun x => (hf x).1.2
  have f3 := fun x => (hf x).2.1
  have f4 := fun x => (hf x).2.2
  have HF1 := Lib.hid hF
  have HFa := Lib.hid (hF w2.drew ⟨c0, c1⟩)
  have HW := Lib.hid hw1
  have HW2 := Lib.hid hw2
  have HNX := Lib.hid (And.intro hnx (And.intro hms hq))
  obtain ⟨N, hN⟩ : ∃ N, nextN ms q now = N := ⟨_, rfl⟩
  rw [hN] at HNX ⊢
  clear hF hf h h1 h2 hw1 hw2 hb1 hb2 hh0 hh1 hh2 hlt0 hlt2 hu hmx hy c0 c1 hms hq hnx hN hlo hhi hz1
  unfold ptrV at *
  go_enter Tryz.func50, Tryz.ntmps50
  go_wp2_with fail
  rw [← HW.out]
  refine HT.out.mono ?_
  rintro e w' ⟨rfl, hww⟩
  rw [hww, HW.out]
  clear hww w'
  go_upto_region 4 with (fail)
  rw [← HW2.out]
  refine wp_region_text ⟨[5], [6], 5⟩ (fun w' => ∃ x : X1, w' = f x) (by kernel_rfl) (by kernel_rfl) HFa.out ?_
  refine wpC_seg false (HFa.out) 5 0 _ _ (by rfl) (by rfl) ?_
  simp only [List.take_succ_cons, List.take_zero, List.drop_succ_cons, List.drop_zero, Bool.false_eq_true, if_false, Nat.zero_add, Nat.reduceAdd]
  repeat (go_big_quiet_step (fail))
  refine wpQuiet_nil ?_
  refine wpC_loud (by rfl) (by rfl) fun K hK => ?_
  go_wp2_with fail
  refine (HBl.out _).mono ?_
  rintro e w3 ⟨rfl, b3⟩
  have HB3 := Lib.hid ((belowN (Below.refl w2.heap.size w2) 1).trans b3)
  refine hK _ _ (fun h => absurd h (by decide)) ?_
  clear hK b3
  refine wpC_segD 1 6 _ _ (by rfl) (by rfl) ?_
  simp only [List.take_succ_cons, List.take_zero, List.drop_succ_cons, List.drop_zero, if_true, Nat.zero_add, Nat.reduceAdd]
  repeat (go_big_quiet_step (fail))
  refine wpQuiet_nil ?_
  refine wpC_nil ?_
  clear hwr hwr2
  cases y
  case' true =>
    have hN := HNX.out.1
    simp only [if_true] at hN
    subst hN
    obtain ⟨⟨d1, d2⟩, d3, d4⟩ := HC.out w3 HB3.out
    obtain ⟨⟨q0, g0⟩, hq1⟩ := HOld.out w3 HB3.out
    clear f1 f2 f3 f4 hX1 HF1 HFa f
    go_wp2_with fail
    exact bodyPost_ret (v := .tuple #[.agg #[.int .u64 u, .int .u64 (0 : Nat)], .bool true]) (by have h := (HEnd.out w3 (.int .u64 u) (.int .u64 (0 : Nat)) HB3.out).1; simp at h; simp [results, Tryz.results50, go_sem, h.1, h.2]) rfl ⟨rfl, (HEnd.out w3 _ _ HB3.out).2⟩
  case' false =>
    have hN := HNX.out.1
    have hms := HNX.out.2.1
    rcases Nat.lt_or_ge q 18446744073709551615 with hq | hq
    · have eq1 : decide ((q : Int) < 18446744073709551615) = true := decide_eq_true (by omega)
      have eq1' : decide (q < 18446744073709551615) = true := decide_eq_true (by omega)
      have hwq : IntKind.u64.wrap ((q : Int) + 1) = ((q + 1 : Nat) : Int) := by rw [IntKind.wrap_u64]; omega
      simp only [Bool.false_eq_true, if_false, if_pos hq] at hN
      subst hN
      clear hq hms HNX
      obtain ⟨⟨d1, d2⟩, d3⟩ := HC.out w3 HB3.out
      go_upto_region 7 with (fail)
      have HB4 := Lib.hid (belowN HB3.out 1)
      have HFb := Lib.hid (HF1.out w3.drew (HC.out w3.drew HB4.out))
      obtain ⟨⟨q0, g0⟩, hq1⟩ := HOld.out w3 HB3.out
      refine wp_region_text ⟨[12], [13], 12⟩ (fun w' => ∃ x : X1, w' = f x) (by kernel_rfl) (by kernel_rfl) HFb.out ?_
      refine wpC_seg false (HFb.out) 12 0 _ _ (by rfl) (by rfl) ?_
      simp only [List.take_succ_cons, List.take_zero, List.drop_succ_cons, List.drop_zero, Bool.false_eq_true, if_false, Nat.zero_add, Nat.reduceAdd]
      repeat (go_big_quiet_step (fail))
      refine wpQuiet_nil ?_
      clear eq1 eq1' hwq
      refine wpC_loud (by rfl) (by rfl) fun K hK => ?_
      go_wp2_with fail
      refine hK _ _ (fun h => absurd h (by decide)) ?_
      clear hK
      refine wpC_segD 1 13 _ _ (by rfl) (by rfl) ?_
      simp only [List.take_succ_cons, List.take_zero, List.drop_succ_cons, List.drop_zero, if_true, Nat.zero_add, Nat.reduceAdd]
      repeat (go_big_quiet_step (fail))
      refine wpQuiet_nil ?_
      refine wpC_nil ?_
      clear f1 f2 f3 f4 hX1 HF1 HFa HFb f
      go_wp2_with fail
      exact bodyPost_ret (v := .tuple #[.agg #[.int .u64 ms, .int .u64 ((q + 1 : Nat) : Int)], .bool true]) (by have h := (HEnd.out w3 (.int .u64 ms) (.int .u64 ((q + 1 : Nat) : Int)) HB3.out).1; simp at h; simp [results, Tryz.results50, go_sem, h.1, h.2]) rfl ⟨rfl, belowN (HEnd.out w3 _ _ HB3.out).2 1⟩
    · have eq1 : decide ((q : Int) < 18446744073709551615) = false := decide_eq_false (by omega)
      have eq1' : decide (q < 18446744073709551615) = false := decide_eq_false (by omega)
      simp only [Bool.false_eq_true, if_false, if_neg (show ¬ q < 18446744073709551615 by omega)] at hN
      clear hq
      obtain ⟨⟨d1, d2⟩, d3⟩ := HC.out w3 HB3.out
      obtain ⟨⟨q0, g0⟩, hq1⟩ := HOld.out w3 HB3.out
      rcases Nat.lt_or_ge ms 18446744073709551615 with hm | hm
      · have eq2 : decide ((ms : Int) < 18446744073709551615) = true := decide_eq_true (by omega)
        have eq2' : decide (ms < 18446744073709551615) = true := decide_eq_true (by omega)
        have hwm : IntKind.u64.wrap ((ms : Int) + 1) = ((ms + 1 : Nat) : Int) := by rw [IntKind.wrap_u64]; omega
        simp only [if_pos hm] at hN
        subst hN
        clear hm hms HNX f1 f2 f3 f4 hX1 HF1 HFa f
        go_wp2_with fail
        exact bodyPost_ret (v := .tuple #[.agg #[.int .u64 ((ms + 1 : Nat) : Int), .int .u64 (0 : Nat)], .bool true]) (by have h := (HEnd.out w3 (.int .u64 ((ms + 1 : Nat) : Int)) (.int .u64 (0 : Nat)) HB3.out).1; simp at h; simp [results, Tryz.results50, go_sem, h.1, h.2]) rfl ⟨rfl, (HEnd.out w3 _ _ HB3.out).2⟩
      · have eq2 : decide ((ms : Int) < 18446744073709551615) = false := decide_eq_false (by omega)
        have eq2' : decide (ms < 18446744073709551615) = false := decide_eq_false (by omega)
        simp only [if_neg (show ¬ ms < 18446744073709551615 by omega)] at hN
        subst hN
        clear hm hms HNX f1 f2 f3 f4 hX1 HF1 HFa f
        go_wp2_with fail
        exact bodyPost_ret (v := .tuple #[.agg #[.int .u64 (0 : Nat), .int .u64 (0 : Nat)], .bool false]) (by have h := (HEnd.out w3 (.int .u64 (0 : Nat)) (.int .u64 (0 : Nat)) HB3.out).1; simp at h; simp [results, Tryz.results50, go_sem, h.1, h.2]) rfl ⟨rfl, (HEnd.out w3 _ _ HB3.out).2⟩
end Go.Proofs.YtmaemgihhipllaaGreatDoor

/- ranging over a stream's tree: what the loop may rest on. -/
namespace Go.Proofs.YtmaemgihhipllaaGreatDoor.Sad
open Go.Proofs.YtmaemgihhipllaaGreatDoor
set_option linter.unusedVariables false
set_option linter.unusedSimpArgs false
open Go.RowKit RT Go.Shelf
attribute [local go_sem] Oper.semAt_some
theorem pre_lt {α : Type} {pre l : List α} {x : α} (h : pre ++ [x] <+: l) : pre.length < l.length := by
  have := h.length_le
  simp at this
  omega
theorem radStops {w : World} {p bt bi ms seq n : Nat} {G : Nat → Prop} {T : Option RT} (h : TreeF w p G T n) (h1 : ms < 18446744073709551616) (h2 : seq < 18446744073709551616) (hbt : w.cell? ⟨bt, 0, none⟩ = some (.pointer (some ⟨p, 0, none⟩))) (hbi : w.heap[bi]? = some (.cells #[.int .u64 ms, .int .u64 seq] 41 (0, 0))) (hnodes : nodesO T ≤ 1000000) (m : Nat) :
    SeqStopsK Fence.wide m Tryz.prog 62 #[.pointer (some ⟨bt, 0, none⟩), .pointer (some ⟨bi, 0, none⟩)] encs KeepE (fun xs => xs = toldL T (idBytes ms seq)) (fun pre => pre <+: toldL T (idBytes ms seq)) (toldL T (idBytes ms seq)).length w := by
  intro l J Jx W hW hJ _ hY h0
  have hblt := World.block_lt_of_cell? w _ hbt
  have hilt := heap_lt hbi
  have hbi' := (hW.block bi hilt).trans hbi
  refine callsIn_wide.2 (radIter1 (h.below hW) h1 h2 ((hW.cell (p := ⟨bt, 0, none⟩) hblt).trans hbt) (cell_in hbi' rfl) (cell_in hbi' rfl) hbi' hnodes J Jx hJ (fun pre x W1 hj hp => hY pre x W1 hj (pre_lt hp)) h0)
/-- The same, where the loop knows of each thing told that it is one of those that are told. -/
theorem radStopsM {w : World} {p bt bi ms seq n : Nat} {G : Nat → Prop} {T : Option RT} (h : TreeF w p G T n) (h1 : ms < 18446744073709551616) (h2 : seq < 18446744073709551616) (hbt : w.cell? ⟨bt, 0, none⟩ = some (.pointer (some ⟨p, 0, none⟩))) (hbi : w.heap[bi]? = some (.cells #[.int .u64 ms, .int .u64 seq] 41 (0, 0))) (hnodes : nodesO T ≤ 1000000) (m : Nat) :
    SeqStopsK (α := { x // x ∈ toldL T (idBytes ms seq) }) Fence.wide m Tryz.prog 62 #[.pointer (some ⟨bt, 0, none⟩), .pointer (some ⟨bi, 0, none⟩)] (fun x => encs x.1) KeepE (fun xs => xs.map (·.1) = toldL T (idBytes ms seq)) (fun pre => pre.map (·.1) <+: toldL T (idBytes ms seq)) (toldL T (idBytes ms seq)).length w := by
  intro l J Jx W hW hJ _ hY h0
  have hblt := World.block_lt_of_cell? w _ hbt
  have hilt := heap_lt hbi
  have hbi' := (hW.block bi hilt).trans hbi
  refine callsIn_wide.2 ((radIter1 (h.below hW) h1 h2 ((hW.cell (p := ⟨bt, 0, none⟩) hblt).trans hbt) (cell_in hbi' rfl) (cell_in hbi' rfl) hbi' hnodes (fun xs W => ∃ ys, ys.map (·.1) = xs ∧ J ys W) (fun xs W => ∃ ys, ys.map (·.1) = xs ∧ Jx ys W) (fun s W W' row => by
    rintro ⟨ys, e, hj⟩ hg hr
    exact ⟨ys, e, hJ ys W W' row hj hg hr⟩) (fun pre x W1 => by
    rintro ⟨ys, rfl, hj⟩ hp
    have hx : x ∈ toldL T (idBytes ms seq) := hp.subset (by simp)
    have hl := pre_lt hp
    rw [List.length_map] at hl
    refine (hY ys ⟨x, hx⟩ W1 hj hl).mono ?_
    rintro e W' (⟨rfl, hj', hk⟩ | ⟨rfl, hj'⟩)
    · exact .inl ⟨rfl, ⟨_, by simp, hj'⟩, hk⟩
    · exact .inr ⟨rfl, _, by simp, hj'⟩) ⟨[], rfl, h0⟩).mono ?_)
  rintro e W' ⟨hv, ⟨xs, rfl, ys, hys, hj⟩ | ⟨pre, hp, ys, rfl, hj⟩⟩
  · exact ⟨hv, .inl ⟨ys, hys, hj⟩⟩
  · exact ⟨hv, .inr ⟨ys, hp, hj⟩⟩
theorem keepsFrom_of {W W' : World} {S : Nat → Prop} (B : Nat) (h : Chg S W W') (hs : ∀ k, S k → ∀ o, W.heap[k]? = some o → o.isCells = true) : KeepsFrom B W W' :=
  ⟨h.size, fun k o _ hk ho => h.keep hk fun hS => by rw [hs k hS o hk] at ho; cases ho⟩
theorem grown_keep {W W' : World} {row : Option Nat} (hg : W.grownBy W' row) (hr : ∀ r, row = some r → ∃ o : Obj, W.heap[r]? = some o ∧ o.isCells = false) {k : Nat} {cs : Array Value} {E : TypeId} {fz : Nat × Nat} (hk : W.heap[k]? = some (.cells cs E fz)) : W'.heap[k]? = some (.cells cs E fz) := by
  rw [hg.block k (heap_lt hk) (fun e => by
    obtain ⟨o, ho, hc⟩ := hr k e.symm
    rw [hk] at ho; cases ho; cases hc)]
  exact hk
theorem grown_slice {W W' : World} {row : Option Nat} (hg : W.grownBy W' row) (hr : ∀ r, row = some r → ∃ o : Obj, W.heap[r]? = some o ∧ o.isCells = false) {B : Nat} {e : TypeId} {z n : Nat} {v : Value} {xs : List Value} (h : SliceN W B e z v n xs) : SliceN W' B e z v n xs := by
  refine ⟨h.1, h.2.imp id ?_⟩
  rintro ⟨g, cap, cur, rfl, h2, ⟨fz, h3, h4⟩, h5⟩
  exact ⟨g, cap, cur, rfl, h2, ⟨fz, h3, grown_keep hg hr h4⟩, h5⟩
theorem grown_below {W W' w : World} {row : Option Nat} {n₀ B : Nat} (hb : Below n₀ w W) (hg : W.grownBy W' row) (hr : ∀ r, row = some r → B ≤ r) (hn : n₀ ≤ B) (hs : n₀ ≤ W.heap.size) : Below n₀ w W' :=
  hb.trans ⟨hg.os, hg.tape, hg.output, hg.size, fun k hk => hg.block k (by omega) fun e => by have := hr k e.symm; omega⟩
theorem wpListIn_append_run {F : Fence} {n : Nat} {P : Program} {ops : Array Oper} {Q : Exit → Act → World → Prop} {rest : List Oper} {o : Oper} {a : Act} {w w' : World} {s x : Operand} {t u : TypeId} {v : Value} (hg : o.guard = none)
    (hop : o.op = .call { callee := .builtin .append, args := #[s, x], argTypes := #[t, u] }) (hr : (Builtin.append_ #[t, u] o.type #[a.eval s, a.eval x]).run P w = .ok v w')
    (h : wpListIn F n P ops Q rest (a.put o.dst v) w') : wpListIn F n P ops Q (o :: rest) a w := by
  refine wpListIn_plain hg fun K hK' => ?_
  unfold Oper.wpIn
  refine ⟨?_, ?_⟩
  · simp [Oper.about, hop, resolve, Target.leads, Sem.run_pure]
  · rw [Oper.semAt_plain F _ _ (by rw [hop]; intro c hc'; cases hc')]
    rw [exec_append hop hr]
    exact hK' _ _ h
end Go.Proofs.YtmaemgihhipllaaGreatDoor.Sad

/- (*stream.Stream).Charge: what entries cost, plain law. -/
namespace Go.Proofs.YtmaemgihhipllaaGreatDoor.Sad
open Go.Proofs.YtmaemgihhipllaaGreatDoor
set_option linter.unusedVariables false
set_option linter.unusedSimpArgs false
open Go.RowKit RT Go.Shelf
def pairsCost (L : List PairT) : Nat := (L.map fun p => 16 + p.1.size + p.2.size).foldl (· + ·) 0
/-- What the entries cost whose rows hold these pairs. -/
def costOf (R : Nat × Nat × VT → List PairT) (xs : List (Nat × Nat × VT)) : Nat := (xs.map fun x => 32 + pairsCost (R x)).foldl (· + ·) 0
theorem foldl_add : ∀ (l : List Nat) (a : Nat), l.foldl (· + ·) a = a + l.foldl (· + ·) 0
  | [], a => by simp
  | x :: l, a => by
    rw [List.foldl_cons, List.foldl_cons, foldl_add l (a + x), foldl_add l (0 + x)]
    omega
theorem costOf_append (R : Nat × Nat × VT → List PairT) (pre : List (Nat × Nat × VT)) (x : Nat × Nat × VT) : costOf R (pre ++ [x]) = costOf R pre + (32 + pairsCost (R x)) := by
  simp [costOf, List.foldl_append]
theorem pairsCost_append (L : List PairT) (p : PairT) : pairsCost (L ++ [p]) = pairsCost L + (16 + p.1.size + p.2.size) := by
  simp [pairsCost, List.foldl_append]
end Go.Proofs.YtmaemgihhipllaaGreatDoor.Sad

/- (*stream.Stream).Charge. -/
namespace Go.Proofs.YtmaemgihhipllaaGreatDoor.Sad
open Go.Proofs.YtmaemgihhipllaaGreatDoor
set_option linter.unusedVariables false
set_option linter.unusedSimpArgs false
open Go.RowKit RT Go.Shelf
attribute [local go_sem] Oper.semAt_some
/-- The rows of these entries hold these pairs. -/
def RowsOf (w : World) (R : Nat × Nat × VT → List PairT) (xs : List (Nat × Nat × VT)) : Prop := ∀ x ∈ xs, PairRow w x.2.2.1 x.2.2.2.1 x.2.2.2.2 (R x) ∧ x.2.2.2.1 ≤ 281474976710656
theorem RowsOf.below {w w' : World} {R : Nat × Nat × VT → List PairT} {xs : List (Nat × Nat × VT)} (h : RowsOf w R xs) (hb : Below w.heap.size w w') : RowsOf w' R xs := fun x hx => ⟨(h x hx).1.below hb, (h x hx).2⟩
/-- What Charge has counted. -/
def Sum {α : Type} (w : World) (n₀ Bs : Nat) (c : List α → Nat) (pre : List α) (W : World) : Prop :=
  Below n₀ w W ∧ n₀ ≤ W.heap.size ∧ W.heap[Bs]? = some (.cells #[.int .i64 (c pre : Nat)] 2 (0, 0))
theorem Sum.own {α : Type} (w : World) (n₀ Bs B : Nat) (c : List α → Nat) (hB : n₀ ≤ B) : OwnFrom B (Sum w n₀ Bs c) := by
  rintro pre W W' row ⟨h1, h2, h3⟩ hg hr
  exact ⟨grown_below h1 hg (fun r e => (hr r e).1) hB h2, Nat.le_trans h2 hg.size, grown_keep hg (fun r e => (hr r e).2) h3⟩
/-- The frame of a round. -/
def AxRow (tm : Array Value) (x : Nat × Nat × VT) (a' : Act) (W : World) : Prop :=
  a' = { tmps := ((tm.setIfInBounds 17 (.agg #[.int .u64 x.1, .int .u64 x.2.1])).setIfInBounds 18 (vC x.2.2)).setIfInBounds 5 (vC x.2.2), defers := [] }
theorem foldl_ge (l : List Nat) (a : Nat) : a ≤ l.foldl (· + ·) a := by rw [foldl_add]; omega
theorem costOf_mono (R : Nat × Nat × VT → List PairT) {xs ys : List (Nat × Nat × VT)} (h : xs <+: ys) : costOf R xs ≤ costOf R ys := by
  obtain ⟨t, rfl⟩ := h
  unfold costOf
  rw [List.map_append, List.foldl_append]
  exact foldl_ge _ _
theorem costOf_le {R : Nat × Nat × VT → List PairT} {M : Nat} : ∀ (xs : List (Nat × Nat × VT)), (∀ x ∈ xs, 32 + pairsCost (R x) ≤ M) → costOf R xs ≤ xs.length * M
  | [], _ => by simp [costOf]
  | x :: xs, h => by
    have h1 := costOf_le xs fun y hy => h y (List.mem_cons_of_mem _ hy)
    have h2 := h x (List.mem_cons_self ..)
    unfold costOf at h1 ⊢
    rw [List.map_cons, List.foldl_cons, foldl_add, List.length_cons, Nat.add_mul]
    omega
theorem pairsCost_le {L : List PairT} {k : Nat} : pairsCost (L.take k) ≤ pairsCost L := by
  have h := List.take_append_drop k L
  have e : pairsCost L = pairsCost (L.take k ++ L.drop k) := by rw [h]
  rw [e]
  unfold pairsCost
  rw [List.map_append, List.foldl_append]
  exact foldl_ge _ _
theorem pairsCost_succ {L : List PairT} {k : Nat} (h : k < L.length) : pairsCost (L.take (k + 1)) = pairsCost (L.take k) + (16 + (L.getD k e0).1.size + (L.getD k e0).2.size) := by
  rw [List.take_succ_eq_append_getElem h, pairsCost_append]
  simp [List.getD, h]
set_option maxHeartbeats 3200000 in
set_option maxRecDepth 100000 in
theorem stmCharge {w : World} {s p : Nat} {G : Nat → Prop} {T : Option RT} {n ms q : Nat} (h : StmF w s p G T n ms q) {R : Nat × Nat × VT → List PairT} (hR : RowsOf w R (toldL T (idBytes 0 0))) {M : Nat} (hM : ∀ x ∈ toldL T (idBytes 0 0), 32 + pairsCost (R x) ≤ M) (hc : (toldL T (idBytes 0 0)).length * M ≤ 281474976710656) (hnodes : nodesO T ≤ 1000000) :
    Calls Tryz.prog 52 #[ptrV s] w fun e w' => e = .returned (.int .i64 (costOf R (toldL T (idBytes 0 0)) : Nat)) ∧ Below w.heap.size w w' := by
  obtain ⟨w1, hw1⟩ : ∃ w1, w1 = w.alloc (.cells #[.int .i64 0] 2) := ⟨_, rfl⟩
  have hb1 : Below w.heap.size w w1 := by rw [hw1]; exact (Below.refl _ _).alloc (Nat.le_refl _) _
  have hl1 : w1.heap[w.heap.size]? = some (.cells #[.int .i64 0] 2 (0, 0)) := by rw [hw1]; exact heap_new _ _
  have hs1 : w1.heap.size = w.heap.size + 1 := by rw [hw1]; simp
  have h1 := h.below hb1
  obtain ⟨w3, hw3⟩ : ∃ w3, w3 = (w1.alloc (.cells #[.pointer (some ⟨p, 0, none⟩)] 61)).alloc (.cells #[.int .u64 (0 : Nat), .int .u64 (0 : Nat)] 41) := ⟨_, rfl⟩
  have hb3 : Below w.heap.size w w3 := by rw [hw3]; exact (hb1.alloc (by omega) _).alloc (by simp; omega) _
  have hs3 : w3.heap.size = w.heap.size + 3 := by rw [hw3]; simp [hs1]
  have hl3 : w3.heap[w.heap.size]? = some (.cells #[.int .i64 0] 2 (0, 0)) := by rw [hw3]; exact heap_old (heap_old hl1 _) _
  have hbt3 : w3.cell? ⟨w1.heap.size, 0, none⟩ = some (.pointer (some ⟨p, 0, none⟩)) := by rw [hw3]; exact cell_in (heap_old (heap_new _ _) _) rfl
  have hbi3 : w3.heap[w1.heap.size + 1]? = some (.cells #[.int .u64 (0 : Nat), .int .u64 (0 : Nat)] 41 (0, 0)) := by
    rw [hw3]
    have := heap_new (w1.alloc (.cells #[.pointer (some ⟨p, 0, none⟩)] 61)) (.cells #[.int .u64 (0 : Nat), .int .u64 (0 : Nat)] 41)
    rw [World.size_alloc] at this
    exact this
  rw [hs1] at hbt3 hbi3
  have HF := Lib.hid (show Calls Tryz.prog 19 #[.pointer (some ⟨p, 0, none⟩), .agg #[.int .u64 0, .int .u64 0]] w1 fun e w' => e = .returned (.func (.func 62) #[] #[.pointer (some ⟨w1.heap.size, 0, none⟩), .pointer (some ⟨w1.heap.size + 1, 0, none⟩)]) ∧ w' = w3 by rw [hw3]; exact radFrom w1 p 0 0)
  have HT := Lib.hid (stmThere h1)
  have HSeq := Lib.hid (radStopsM (ms := 0) (seq := 0) (h.tree.below hb3) (by omega) (by omega) hbt3 hbi3 hnodes 2)
  obtain ⟨Tl, hTl⟩ : ∃ Tl, toldL T (idBytes 0 0) = Tl := ⟨_, rfl⟩
  rw [hTl] at HSeq hR hM hc ⊢
  have HG0 := Lib.hid (show Sum w w.heap.size w.heap.size (fun pre : List { x // x ∈ Tl } => costOf R (pre.map (·.1))) [] w3 from ⟨hb3, by omega, hl3⟩)
  have HRow := Lib.hid (fun W (hb : Below w.heap.size w W) => hR.below hb)
  have HC := Lib.hid (And.intro hc hM)
  have HW1 := Lib.hid hw1
  have HS3 := Lib.hid (And.intro hs3 (heap_lt h.head))
  have c0 := cell_in h1.head (i := 0) rfl
  unfold ptrV at *
  obtain ⟨tm, htm⟩ : ∃ tm : Array Value, tm = #[.pointer (some ⟨s, 0, none⟩), undef, .int .i64 0, .pointer (some ⟨w.heap.size, 0, none⟩), undef, undef, undef, undef, .pointer (some ⟨s, 0, none⟩), .bool true, .bool false, .pointer (some ⟨s, 0, none⟩), .pointer (some ⟨s, 0, none⟩), .pointer (some ⟨s, 0, none⟩), .pointer (some ⟨p, 0, none⟩), .agg #[.int .u64 0, .int .u64 0], .func (.func 62) #[] #[.pointer (some ⟨w.heap.size + 1, 0, none⟩), .pointer (some ⟨w.heap.size + 1 + 1, 0, none⟩)], undef, undef, undef, undef, undef, undef, undef, undef, undef, undef, undef, undef, undef, undef, undef, undef, undef, undef, undef, undef, undef, undef] := ⟨_, rfl⟩
  have HTm := Lib.hid htm
  clear h h1 hb1 hb3 hl1 hl3 hbt3 hbi3 hw1 hw3 hs3 hR hc hM hnodes hTl htm
  refine callsIn_wide.1 (callsIn_of_wp_marks (n := 3) Tryz.func52 rfl trivial ?_ rfl)
  refine wpIn_wide.2 ?_
  simp only [Tryz.ntmps52, List.size_toArray, List.length_cons, List.length_nil, Nat.reduceAdd, Nat.reduceSub, Array.replicate_succ, Array.replicate_zero, List.push_toArray, List.append_toArray, List.nil_append, List.cons_append]
  go_wp2_with fail
  rw [← HW1.out]
  refine HT.out.mono ?_
  rintro e w' ⟨rfl, rfl⟩
  go_wp2_with fail
  refine HF.out.mono ?_
  rintro e w3' ⟨rfl, rfl⟩
  go_wp2_with fail
  refine (wpIn_wide (n := 3)).1 ?_
  refine wpIn_rangeFunc_ownH (α := { x // x ∈ Tl }) (F := Fence.wide) rfl (by omega) (gf := 62) (lb := #[.pointer (some ⟨w.heap.size + 1, 0, none⟩), .pointer (some ⟨w.heap.size + 1 + 1, 0, none⟩)]) rfl trivial (fun args w => rfl) HSeq.out KeepE.trans (fun W l o o' _ hl ho _ => KeepE.putObj W l o o' hl ho) (Below.refl _ _) (fun _ => rfl)
    (Sum w w.heap.size w.heap.size (fun pre : List { x // x ∈ Tl } => costOf R (pre.map (·.1)))) (fun _ _ _ => False) (Sum.own _ _ _ _ _ (by have := HS3.out.1; omega)) (fun _ _ _ _ _ hs _ _ => hs) HG0.out (fun x a' W => AxRow tm x.1 a' W) (fun x a' => fun _ _ _ _ hs _ _ => hs) ?assign ?body ?done ?stop
  case stop =>
    rintro D c pre W _ _ h _
    exact h.elim
  case assign =>
    intro l pre x W K hI hK
    have HI := Lib.hid hI
    unfold encs
    clear hI
    gi_wp2
    refine hK _ _ ⟨Nat.le_refl _, fun k o _ h _ => h⟩ ⟨Nat.le_refl _, fun k cs fz h => h⟩ HI.out ?_
    rw [HTm.out]; rfl
  case body =>
    rintro l pre ⟨⟨xm, xq, av, nv, cv⟩, hx⟩ a' W _ _ hI rfl hlen
    obtain ⟨i1, i2, i3⟩ := hI
    obtain ⟨L, hL⟩ : ∃ L, R (xm, xq, av, nv, cv) = L := ⟨_, rfl⟩
    have hnv := (HRow.out W i1 _ hx).2
    dsimp only at hnv
    have hrow : ∀ W', Below w.heap.size w W' → PairRow W' av nv cv L := fun W' hb => by
      have := (HRow.out W' hb _ hx).1
      rw [hL] at this
      exact this
    have hLl := (hrow W i1).1
    obtain ⟨S0, hS0⟩ : ∃ S0 : Nat, costOf R (pre.map (·.1)) = S0 := ⟨_, rfl⟩
    have hS1 : costOf R ((pre ++ [(⟨(xm, xq, av, nv, cv), hx⟩ : { x // x ∈ Tl })]).map (·.1)) = S0 + (32 + pairsCost L) := by
      rw [List.map_append, List.map_cons, List.map_nil, costOf_append, hS0, hL]
    have hbd : S0 + (32 + pairsCost L) ≤ 281474976710656 := by
      rw [← hS1]
      have h1 := costOf_le (R := R) (M := M) ((pre ++ [(⟨(xm, xq, av, nv, cv), hx⟩ : { x // x ∈ Tl })]).map (·.1)) fun y hy => by
        obtain ⟨z, _, rfl⟩ := List.mem_map.1 hy
        exact HC.out.2 _ z.2
      have h2 := HC.out.1
      have h3 : ((pre ++ [(⟨(xm, xq, av, nv, cv), hx⟩ : { x // x ∈ Tl })]).map (·.1)).length * M ≤ Tl.length * M := Nat.mul_le_mul_right _ (by simp; omega)
      omega
    have i3' : W.heap[w.heap.size]? = some (.cells #[.int .i64 (S0 : Int)] 2 (0, 0)) := by rw [i3]; simp only [hS0]
    have l0 := cell_in i3' (i := 0) rfl
    have lf := frozen_in i3' 0
    obtain ⟨W1, hW1⟩ : ∃ W1, W1 = W.setCell ⟨w.heap.size, 0, none⟩ (.int .i64 ((S0 : Int) + 32)) := ⟨_, rfl⟩
    have h11 : W1.heap[w.heap.size]? = some (.cells #[.int .i64 ((S0 : Int) + 32)] 2 (0, 0)) := by rw [hW1]; exact setCell_head i3' 0 _
    have hc1 : Chg (fun j => j = w.heap.size) W W1 := by rw [hW1]; exact Chg.setCell _ _ _ _ rfl
    have hb1 : Below w.heap.size w W1 := belowChg i1 hc1 i2 fun k hk _ => by omega
    have HI0 := Lib.hid (show Chg (fun j => j = w.heap.size) W W1 ∧ Below w.heap.size w W1 ∧ W1.heap[w.heap.size]? = some (.cells #[.int .i64 ((S0 + 32 + pairsCost (L.take 0) : Nat) : Int)] 2 (0, 0)) from ⟨hc1, hb1, by rw [h11]; simp [pairsCost]⟩)
    have HW1 := Lib.hid hW1
    have HRw := Lib.hid hrow
    have HBd := Lib.hid (And.intro hbd (And.intro hLl hS1))
    have j1 : (S0 : Int) + 32 ≤ 281474976710656 := by omega
    have HI1 := Lib.hid (And.intro i1 (And.intro i2 i3'))
    rw [HTm.out]
    clear i1 i2 i3 i3' hS0 hS1 hbd hL hrow hW1 h11 hc1 hb1 hLl
    simp only [List.setIfInBounds_toArray, List.set_cons_succ, List.set_cons_zero, vC]
    gi_wp2_with fail
    rw [← HW1.out]
    gi_loopw [23] (fun i wr => ∃ k : Nat, k ≤ nv ∧ i = .int .i64 k ∧ Hid (Chg (fun j => j = w.heap.size) W wr ∧ Below w.heap.size w wr ∧ wr.heap[w.heap.size]? = some (.cells #[.int .i64 ((S0 + 32 + pairsCost (L.take k) : Nat) : Int)] 2 (0, 0)))) (fun i _ => nv - (intOf i).toNat)
    case atStart => exact ⟨0, Nat.zero_le _, rfl, HI0⟩
    case round =>
      obtain ⟨k, hk, rfl, hI⟩ := hrel
      by_cases hlt : k < nv
      · obtain ⟨b, o, rfl, hbl, d0, d1⟩ := (HRw.out wr hI.out.2.1).cells hlt
        obtain ⟨f, hf⟩ : ∃ f, (L.getD k e0).1 = f := ⟨_, rfl⟩
        obtain ⟨v, hv⟩ : ∃ v, (L.getD k e0).2 = v := ⟨_, rfl⟩
        obtain ⟨U, hU⟩ : ∃ U : Nat, S0 + 32 + pairsCost (L.take k) = U := ⟨_, rfl⟩
        have hU1 : S0 + 32 + pairsCost (L.take (k + 1)) = U + (16 + (f.size + v.size)) := by
          rw [pairsCost_succ (by rw [HBd.out.2.1]; exact hlt), hf, hv, ← hU]; omega
        have hbd : U + (16 + (f.size + v.size)) ≤ 281474976710656 := by
          have h1 := @pairsCost_le L (k + 1)
          have h2 := HBd.out.1
          omega
        rw [hf] at d0
        rw [hv] at d1
        have hbox := hI.out.2.2
        rw [hU] at hbox
        obtain ⟨W5, hW5⟩ : ∃ W5, W5 = wr.alloc (.cells #[.string f, .string v] 68) := ⟨_, rfl⟩
        have h55 : W5.heap[wr.heap.size]? = some (.cells #[.string f, .string v] 68 (0, 0)) := by rw [hW5]; exact heap_new _ _
        have h50 : W5.heap[w.heap.size]? = some (.cells #[.int .i64 (U : Int)] 2 (0, 0)) := by rw [hW5]; exact heap_old hbox _
        have y0 := cell_in h55 (i := 0) rfl
        have y1 := cell_in h55 (i := 1) rfl
        have y2 := cell_in h50 (i := 0) rfl
        have y3 := frozen_in h50 0
        obtain ⟨W6, hW6⟩ : ∃ W6, W6 = W5.setCell ⟨w.heap.size, 0, none⟩ (.int .i64 ((U : Int) + (16 + ((f.size : Int) + (v.size : Int))))) := ⟨_, rfl⟩
        have h60 : W6.heap[w.heap.size]? = some (.cells #[.int .i64 ((U : Int) + (16 + ((f.size : Int) + (v.size : Int))))] 2 (0, 0)) := by rw [hW6]; exact setCell_head h50 0 _
        have c56 : Chg (fun j => j = w.heap.size) wr W6 := by rw [hW6]; exact ((hW5 ▸ Chg.alloc (fun j => j = w.heap.size) wr _ : Chg (fun j => j = w.heap.size) wr W5)).trans (Chg.setCell _ _ _ _ rfl) fun _ h _ => h.symm
        have HN := Lib.hid (show Chg (fun j => j = w.heap.size) W W6 ∧ Below w.heap.size w W6 ∧ W6.heap[w.heap.size]? = some (.cells #[.int .i64 ((S0 + 32 + pairsCost (L.take (k + 1)) : Nat) : Int)] 2 (0, 0)) from
          ⟨hI.out.1.trans c56 fun _ h _ => h, belowChg hI.out.2.1 c56 hI.out.2.1.size fun k hk _ => by omega, by rw [h60, hU1]; simp⟩)
        have HW5 := Lib.hid hW5
        have HW6 := Lib.hid hW6
        have j2 : (f.size : Int) + (v.size : Int) ≤ 281474976710656 := by omega
        have j3 : 16 + ((f.size : Int) + (v.size : Int)) ≤ 281474976710656 := by omega
        have j4 : (U : Int) + (16 + ((f.size : Int) + (v.size : Int))) ≤ 281474976710656 := by omega
        clear hf hv hU hU1 hbd hbox hW5 h55 h50 hW6 h60 c56 hI hbl hs1 c0 l0 lf
        gi_upto_region 10 with (fail)
        rw [← HW5.out]
        gi_wp2_with fail
        rw [← HW6.out]
        gi_wp2_with fail
        go_roundw
        case rel => exact ⟨k + 1, by omega, by go_num, HN⟩
        case measure => simp [intOf]; omega
      · obtain rfl : k = nv := by omega
        have h0 := hI.out
        rw [List.take_of_length_le (by rw [HBd.out.2.1]; exact Nat.le_refl _)] at h0
        have HFin := Lib.hid (show ownPostG w3'.heap.size KeepE (Sum w w.heap.size w.heap.size (fun pre : List { x // x ∈ Tl } => costOf R (pre.map (·.1)))) (fun _ _ _ => False) (pre ++ [⟨(xm, xq, av, k, cv), hx⟩]) W .normal { tmps := #[], defers := [] } wr from by
          refine ⟨keepsFrom_of _ h0.1 fun k hk o ho => ?_, KeepE.chg h0.1 fun k cs fz hk he => ?_, h0.2.1, h0.2.1.size, ?_⟩
          · subst hk; rw [HI1.out.2.2] at ho; cases ho; rfl
          · subst hk; rw [HI1.out.2.2] at he; cases he
          · rw [h0.2.2]
            have := HBd.out.2.2
            simp only [this, Nat.add_assoc])
        clear h0 hI
        gi_wp2_with fail
        exact HFin.out
  case done =>
    rintro D xs W hD hxs hI hK
    obtain ⟨i1, i2, i3⟩ := hI
    simp only [hxs] at i3
    have l0 := cell_in i3 (i := 0) rfl
    have HI := Lib.hid (And.intro i1 (And.intro i2 i3))
    clear i1 i2 i3
    go_wp2_with fail
    refine ⟨by simp, .inl ⟨_, _, rfl, run_takeDeferred hK, ?_⟩⟩
    refine ⟨_, results_tmp rfl _ _ _, ?_⟩
    obtain ⟨i1, i2, i3⟩ := HI.out
    have hg := grownBy_putObj' W D (.deferred none)
    exact ⟨rfl, grown_below i1 hg (fun r e => by cases e; have := HS3.out.1; omega) (Nat.le_refl _) i2⟩
end Go.Proofs.YtmaemgihhipllaaGreatDoor.Sad

/- the chapter's stream: lives answers true. -/
namespace Go.Proofs.YtmaemgihhipllaaGreatDoor.Sad
open Go.Proofs.YtmaemgihhipllaaGreatDoor
set_option linter.unusedVariables false
set_option linter.unusedSimpArgs false
open Go.RowKit RT Go.Shelf
theorem id_struct : Tryz.prog.underlying 41 = some (.struct (Tryz.prog.fieldsOf 41)) := by kernel_rfl
@[go_sem] theorem eq_id (a b c d : Int) (w : World) : (Op.equalIn 10000 41 (.agg #[.int .u64 a, .int .u64 b]) (.agg #[.int .u64 c, .int .u64 d])).run Tryz.prog w = .ok (a == c && b == d) w := by
  rw [show (10000 : Nat) = 9999 + 1 from rfl, run_equalIn_struct w _ _ _ _ id_struct (by kernel_rfl)]
  have u1 : Tryz.prog.underlying 39 = some (.int .u64) := Tryz.underlying39
  simp only [Program.fieldsOf, Tryz.underlying41]
  simp [Op.eqFields, part, go_sem, u1]
  by_cases h1 : a = c <;> by_cases h2 : b = d <;> simp [h1, h2]
@[go_sem] theorem guard_id (op : BinOp) (w : World) (x y : Operand) (xs ys : Array Value) : (eqGuard op 41 x y (.agg xs) (.agg ys)).run Tryz.prog w = .ok () w := run_eqGuard_agg w op _ x y xs ys (by kernel_rfl)
theorem told_one (v : VT) : toldL (putO none (idBytes 5 0) v) (idBytes 0 0) = [(5, 0, v)] := by rfl
theorem next_one : nextN 5 0 3 = ((5, 1), true) := by decide
theorem idT_one : idT 5 1 = ⟨#[53, 45, 49]⟩ := by
  have h5 : Lib.decDigits 5 = [53] := by rw [Lib.decDigits, dif_pos (by omega)]; rfl
  have h1 : Lib.decDigits 1 = [49] := by rw [Lib.decDigits, dif_pos (by omega)]; rfl
  unfold idT decS
  rw [h5, h1]
  rfl
theorem idS_one_ : idS ⟨#[53, 45, 49]⟩ 0 = ((5, 1), true) := by rw [← idT_one]; exact idS_idT 5 1 0 (by omega) (by omega)
def la : ByteArray := ⟨#[97]⟩
def l1 : ByteArray := ⟨#[49]⟩
theorem pair_row {w w' : World} (h : w' = w.alloc (.cells #[.string ⟨#[97]⟩, .string ⟨#[49]⟩] 68)) : PairRow w' (some ⟨w.heap.size, 0, none⟩) 1 1 [(la, l1)] := by
  have hh : w'.heap[w.heap.size]? = some (.cells #[.string ⟨#[97]⟩, .string ⟨#[49]⟩] 68 (0, 0)) := by rw [h]; exact heap_new _ _
  refine ⟨rfl, by omega, .inr ⟨_, _, rfl, fun i hi => ?_⟩⟩
  obtain rfl : i = 0 := by omega
  exact ⟨cell_in hh rfl, cell_in hh rfl⟩
set_option maxHeartbeats 6400000 in
set_option maxRecDepth 100000 in
theorem lives_any {w : World} (hl : Laid w) : Calls Tryz.prog 10 #[] w fun e w' => e = .returned (.bool true) ∧ Below w.heap.size w w' := by
  have HN := Lib.hid (stmNew w)
  have HL := Lib.hid hl
  clear hl
  go_enter Tryz.func10, Tryz.ntmps10
  go_wp2_with fail
  refine HN.out.mono ?_
  rintro e w1 ⟨s, p, G, rfl, hs1, b1, hn1, hG1⟩
  unfold ptrV
  go_wp2_with fail
  obtain ⟨w2, hw2⟩ : ∃ w2, w2 = w1.alloc (.cells #[.string ⟨#[97]⟩, .string ⟨#[49]⟩] 68) := ⟨_, rfl⟩
  rw [← hw2]
  have hp2 := pair_row hw2
  have b12 : Below w1.heap.size w1 w2 := by rw [hw2]; exact (Below.refl _ _).alloc (Nat.le_refl _) _
  have HA := Lib.hid (addGood (hs1.below b12) hp2 (by omega) (im := 5) (iq := 0) (by omega) (by omega) (by omega) (by decide) (by decide) (by omega))
  have HS2 := Lib.hid (And.intro (b1.trans (b12.mono b1.size)) (And.intro hn1 hG1))
  clear hw2 hp2 b12 hs1 b1 hn1 hG1 HN
  refine HA.out.mono ?_
  rintro e w3 ⟨rfl, G', b, c', hs3, hp3, hb, -, hGG, hc3⟩
  have b3 : Below w.heap.size w w3 := belowChg HS2.out.1 hc3 HS2.out.1.size fun k hk _ => by
    rcases hk with hk | rfl
    · exact HS2.out.2.2 k hk
    · exact HS2.out.2.1
  have hs3' : StmF w3 s p G' (putO none (idBytes 5 0) (some ⟨b, 0, none⟩, 1, c')) 1 5 0 := hs3
  obtain ⟨T, hT⟩ : ∃ T, putO none (idBytes 5 0) (some (⟨b, 0, none⟩ : Addr), 1, c') = T := ⟨_, rfl⟩
  have hTl := told_one (some (⟨b, 0, none⟩ : Addr), 1, c')
  have hnod : nodesO (putO none (idBytes 5 0) (some (⟨b, 0, none⟩ : Addr), 1, c')) ≤ 1000000 := by show 1 ≤ 1000000; omega
  rw [hT] at hs3' hTl hnod
  have HS3 := Lib.hid (And.intro hs3' (And.intro hp3 (And.intro b3 (And.intro hTl hnod))))
  clear hs3 hp3 hb hGG hc3 b3 hs3' hT hTl hnod HA HS2
  go_wp2_with fail
  obtain ⟨w4, hw4⟩ : ∃ w4, w4 = w3.alloc (.cells #[.string ⟨#[97]⟩, .string ⟨#[49]⟩] 68) := ⟨_, rfl⟩
  rw [← hw4]
  have hp4 := pair_row hw4
  have b34 : Below w3.heap.size w3 w4 := by rw [hw4]; exact (Below.refl _ _).alloc (Nat.le_refl _) _
  have HA := Lib.hid (addBad (HS3.out.1.below b34) hp4 (by omega) 5 0 (.inr (.inr (by decide))))
  have HB4 := Lib.hid b34
  clear hw4 hp4 b34
  refine HA.out.mono ?_
  rintro e w5 ⟨rfl, b45⟩
  have HB5 := Lib.hid (HB4.out.trans (b45.mono HB4.out.size))
  clear b45 HA HB4
  have HX := stmNext (HS3.out.1.below HB5.out) (now := 3) (by omega) (by omega)
  rw [next_one] at HX
  have HX := Lib.hid HX
  go_wp2_with fail
  refine HX.out.mono ?_
  rintro e w6 ⟨rfl, b6⟩
  have HB6 := Lib.hid (HB5.out.trans (b6.mono HB5.out.size))
  clear b6 HX HB5
  go_wp2_with fail
  obtain ⟨w7, hw7⟩ : ∃ w7, w7 = w6.alloc (.cells #[.int .u64 5, .int .u64 1] 41) := ⟨_, rfl⟩
  rw [← hw7]
  have b67 : Below w6.heap.size w6 w7 := by rw [hw7]; exact (Below.refl _ _).alloc (Nat.le_refl _) _
  have h77 : w7.heap[w6.heap.size]? = some (.cells #[.int .u64 5, .int .u64 1] 41 (0, 0)) := by rw [hw7]; exact heap_new _ _
  have b7 := HB6.out.trans (b67.mono HB6.out.size)
  have hl7 : Laid w7 := HL.out.below (HS3.out.2.2.1.trans (b7.mono HS3.out.2.2.1.size))
  have HI := id_any ⟨#[53, 45, 49]⟩ 0 (by decide) (by omega) hl7
  rw [idS_one_] at HI
  have HI := Lib.hid HI
  have HB7 := Lib.hid (And.intro b7 (And.intro hl7 h77))
  clear hw7 b67 h77 b7 hl7 HB6
  refine HI.out.mono ?_
  rintro e w8 ⟨rfl, b8⟩
  have HB8 := Lib.hid b8
  clear b8 HI
  go_upto_region 6 with (fail)
  obtain ⟨w9, hw9⟩ : ∃ w9, w9 = w8.alloc (.cells #[.int .u64 5, .int .u64 1] 41) := ⟨_, rfl⟩
  rw [← hw9]
  have b89 : Below w8.heap.size w8 w9 := by rw [hw9]; exact (Below.refl _ _).alloc (Nat.le_refl _) _
  have h99 : w9.heap[w8.heap.size]? = some (.cells #[.int .u64 5, .int .u64 1] 41 (0, 0)) := by rw [hw9]; exact heap_new _ _
  have b79 := HB8.out.trans (b89.mono HB8.out.size)
  have h79 := (b79.block _ (heap_lt HB7.out.2.2)).trans HB7.out.2.2
  have x0 := cell_in h79 (i := 0) rfl
  have x1 := cell_in h79 (i := 1) rfl
  have y0 := cell_in h99 (i := 0) rfl
  have y1 := cell_in h99 (i := 1) rfl
  have b39 := HB7.out.1.trans (b79.mono HB7.out.1.size)
  have HC := stmCharge (R := fun _ => [(la, l1)]) (M := 50) (HS3.out.1.below b39) (fun x hx => by
    rw [HS3.out.2.2.2.1] at hx
    rw [List.mem_singleton.1 hx]
    exact ⟨HS3.out.2.1.below b39, by show 1 ≤ _; omega⟩) (fun x hx => by decide) (by rw [HS3.out.2.2.2.1]; show 1 * 50 ≤ _; omega) HS3.out.2.2.2.2
  rw [HS3.out.2.2.2.1, show costOf (fun _ => [(la, l1)]) [(5, 0, some (⟨b, 0, none⟩ : Addr), 1, c')] = 50 from rfl] at HC
  have HC := Lib.hid HC
  have HX := idText_any 5 1 (by omega) (by omega) (HB7.out.2.1.below b79)
  have b0 := HS3.out.2.2.1.trans (b39.mono HS3.out.2.2.1.size)
  have HB9 := Lib.hid (And.intro (HB7.out.2.1.below b79) (And.intro b0 (And.intro h79 trivial)))
  clear HX hw9 b89 h99 b79 b39 b0 h79
  unfold ptrV at HC
  go_wp2_with fail
  clear x0 x1 y0 y1
  refine HC.out.mono ?_
  rintro e w10 ⟨rfl, b10⟩
  have h10 := (b10.block _ (heap_lt HB9.out.2.2.1)).trans HB9.out.2.2.1
  have x0 := cell_in h10 (i := 0) rfl
  have x1 := cell_in h10 (i := 1) rfl
  have HT := idText_any 5 1 (by omega) (by omega) (HB9.out.1.below b10)
  rw [idT_one] at HT
  have HT' := Lib.hid HT
  have HB10 := Lib.hid (HB9.out.2.1.trans (b10.mono HB9.out.2.1.size))
  clear HT b10 h10
  go_wp2_with fail
  refine HT'.out.mono ?_
  rintro e w11 ⟨rfl, b11⟩
  have HB11 := Lib.hid (HB10.out.trans (b11.mono HB10.out.size))
  clear b11
  go_wp2_with fail
  go_ret
  exact ⟨rfl, HB11.out⟩
end Go.Proofs.YtmaemgihhipllaaGreatDoor.Sad

/- what a tree over pairs tells, in plain Lean: rising identifiers; behind a put and a delete. -/
namespace Go.Proofs.YtmaemgihhipllaaGreatDoor.Sad
open Go.Proofs.YtmaemgihhipllaaGreatDoor
set_option linter.unusedVariables false
set_option linter.unusedSimpArgs false
open Go.RowKit RT Go.Shelf
theorem less_irrefl (a : Nat × Nat) : lessN a a = false := by simp [lessN]
theorem less_trans {a b c : Nat × Nat} (h : lessN a b = true) (k : lessN b c = true) : lessN a c = true := by
  simp only [lessN, decide_eq_true_eq] at *; omega
theorem less_total {a b : Nat × Nat} (h : lessN a b = false) : lessN b a = true ∨ a = b := by
  obtain ⟨a1, a2⟩ := a
  obtain ⟨b1, b2⟩ := b
  simp only [lessN, decide_eq_true_eq, decide_eq_false_iff_not, Prod.mk.injEq] at *; omega
theorem less_asymm {a b : Nat × Nat} (h : lessN a b = true) : lessN b a = false := by
  simp only [lessN, decide_eq_true_eq, decide_eq_false_iff_not] at *; omega
theorem rise_ext2 {α : Type} {r : α → α → Prop} (irr : ∀ x, ¬ r x x) (tr : ∀ x y z, r x y → r y z → r x z) : ∀ {l m : List α}, l.Pairwise r → m.Pairwise r → (∀ x, x ∈ l ↔ x ∈ m) → l = m
  | [], [], _, _, _ => rfl
  | [], y :: m, _, _, h => by have := (h y).2 (by simp); simp at this
  | x :: l, [], _, _, h => by have := (h x).1 (by simp); simp at this
  | x :: l, y :: m, h1, h2, h => by
    rw [List.pairwise_cons] at h1 h2
    have hxy : x = y := by
      have hx := (h x).1 (by simp)
      have hy := (h y).2 (by simp)
      rcases List.mem_cons.1 hx with e | hx
      · exact e
      · rcases List.mem_cons.1 hy with e | hy
        · exact e.symm
        · exact absurd (tr _ _ _ (h1.1 y hy) (h2.1 x hx)) (irr x)
    subst hxy
    congr 1
    refine rise_ext2 irr tr h1.2 h2.2 fun z => ⟨fun hz => ?_, fun hz => ?_⟩
    · rcases List.mem_cons.1 ((h z).1 (by simp [hz])) with e | h'
      · subst e; exact absurd (h1.1 z hz) (irr z)
      · exact h'
    · rcases List.mem_cons.1 ((h z).2 (by simp [hz])) with e | h'
      · subst e; exact absurd (h2.1 z hz) (irr z)
      · exact h'
abbrev Told := Nat × Nat × VT
def idT2 (x : Told) : Nat × Nat := (x.1, x.2.1)
def Rises (l : List Told) : Prop := l.Pairwise fun x y => lessN (idT2 x) (idT2 y) = true
theorem rises_ext {l m : List Told} (h1 : Rises l) (h2 : Rises m) (h : ∀ x, x ∈ l ↔ x ∈ m) : l = m :=
  rise_ext2 (r := fun x y => lessN (idT2 x) (idT2 y) = true) (fun x => by rw [less_irrefl]; simp) (fun x y z => less_trans) h1 h2 h
def idOf (s : List UInt8) : Nat × Nat := (valB (s.take 8), valB (s.drop 8))
theorem idOf_bytes {s : List UInt8} (h : s.length = 16) : idBytes (idOf s).1 (idOf s).2 = s := id_valB h
theorem idOf_lt {s : List UInt8} (h : s.length = 16) : (idOf s).1 < 18446744073709551616 ∧ (idOf s).2 < 18446744073709551616 :=
  ⟨valB_lt64 _ (by simp; omega), valB_lt64 _ (by simp; omega)⟩
theorem idOf_id {a b : Nat} (ha : a < 18446744073709551616) (hb : b < 18446744073709551616) : idOf (idBytes a b) = (a, b) := by
  have := idBytes_inj (idOf_lt (idBytes_length a b)).1 (idOf_lt (idBytes_length a b)).2 ha hb (idOf_bytes (idBytes_length a b))
  exact Prod.ext this.1 this.2
theorem less_ids {s t : List UInt8} (hs : s.length = 16) (ht : t.length = 16) : lessN (idOf s) (idOf t) = decide (s < t) := by
  have h1 := idOf_lt hs
  have h2 := idOf_lt ht
  have := idBytes_lt h1.1 h1.2 h2.1 h2.2
  rw [idOf_bytes hs, idOf_bytes ht] at this
  unfold lessN
  rw [decide_eq_decide]
  exact this.symm
theorem told_rise {T : Option RT} (h : WFO T) (s : List UInt8) : Rises (toldL T s) := by
  unfold Rises toldL fromL
  rw [List.pairwise_map]
  refine List.Pairwise.imp_of_mem ?_ (List.Pairwise.filter _ (itemsO_rise h))
  rintro ⟨a, va⟩ ⟨b, vb⟩ ha hb hab
  have h1 := ((mem_itemsO h a va).1 (List.mem_filter.1 ha).1).1
  have h2 := ((mem_itemsO h b vb).1 (List.mem_filter.1 hb).1).1
  have := less_ids h1 h2
  rw [decide_eq_true hab] at this
  exact this
theorem mem_told {T : Option RT} (h : WFO T) {c d : Nat} (hc : c < 18446744073709551616) (hd : d < 18446744073709551616) (x : Told) :
    x ∈ toldL T (idBytes c d) ↔ (x.1 < 18446744073709551616 ∧ x.2.1 < 18446744073709551616) ∧ lookO T (idBytes x.1 x.2.1) = some x.2.2 ∧ lessN (idT2 x) (c, d) = false := by
  obtain ⟨a, b, v⟩ := x
  unfold toldL fromL
  rw [List.mem_map]
  constructor
  · rintro ⟨⟨s, v'⟩, hm, he⟩
    obtain ⟨h1, h2⟩ := List.mem_filter.1 hm
    obtain ⟨hs, hl⟩ := (mem_itemsO h s v').1 h1
    simp only [itemOf, Prod.mk.injEq] at he
    obtain ⟨rfl, rfl, rfl⟩ := he
    have hi := idOf_bytes hs
    unfold idOf at hi
    dsimp only at hi ⊢
    rw [hi]
    refine ⟨idOf_lt hs, hl, ?_⟩
    have := less_ids hs (idBytes_length c d)
    rw [idOf_id hc hd] at this
    show lessN (idOf s) (c, d) = false
    rw [this]
    simpa using h2
  · rintro ⟨⟨h1, h2⟩, h3, h4⟩
    dsimp only at h1 h2 h3
    refine ⟨(idBytes a b, v), List.mem_filter.2 ⟨(mem_itemsO h _ _).2 ⟨idBytes_length a b, h3⟩, ?_⟩, ?_⟩
    · have := less_ids (idBytes_length a b) (idBytes_length c d)
      rw [idOf_id hc hd, idOf_id h1 h2] at this
      have h4' : lessN (a, b) (c, d) = false := h4
      rw [h4'] at this
      simpa using this.symm
    · have := idOf_id h1 h2
      unfold idOf at this
      simp only [Prod.mk.injEq] at this
      simp [itemOf, this.1, this.2]
theorem mem_all {T : Option RT} (h : WFO T) (x : Told) : x ∈ toldL T (idBytes 0 0) ↔ (x.1 < 18446744073709551616 ∧ x.2.1 < 18446744073709551616) ∧ lookO T (idBytes x.1 x.2.1) = some x.2.2 := by
  rw [mem_told h (by omega) (by omega)]
  have : lessN (idT2 x) (0, 0) = false := by simp [lessN]
  simp [this]
theorem told_from {T : Option RT} (h : WFO T) {c d : Nat} (hc : c < 18446744073709551616) (hd : d < 18446744073709551616) : toldL T (idBytes c d) = (toldL T (idBytes 0 0)).filter fun x => !lessN (idT2 x) (c, d) := by
  refine rises_ext (told_rise h _) (List.Pairwise.filter _ (told_rise h _)) fun x => ?_
  rw [List.mem_filter, mem_told h hc hd, mem_all h]
  simp [and_assoc]
theorem told_put {T : Option RT} (h : WFO T) {a b : Nat} (ha : a < 18446744073709551616) (hb : b < 18446744073709551616) (v : VT) (hlt : ∀ x ∈ toldL T (idBytes 0 0), lessN (idT2 x) (a, b) = true) :
    toldL (putO T (idBytes a b) v) (idBytes 0 0) = toldL T (idBytes 0 0) ++ [(a, b, v)] := by
  have hw := h.putO (idBytes_length a b) v
  refine rises_ext (told_rise hw _) ?_ fun x => ?_
  · unfold Rises
    rw [List.pairwise_append]
    refine ⟨told_rise h _, by simp, fun x hx y hy => ?_⟩
    rw [List.mem_singleton.1 hy]
    exact hlt x hx
  · rw [List.mem_append, mem_all hw, mem_all h, List.mem_singleton, look_putO h (idBytes_length a b) (idBytes_length _ _) v]
    obtain ⟨x1, x2, xv⟩ := x
    dsimp only
    constructor
    · rintro ⟨h1, h2⟩
      split at h2
      · next e =>
        obtain ⟨rfl, rfl⟩ := idBytes_inj h1.1 h1.2 ha hb e
        cases h2
        exact .inr rfl
      · exact .inl ⟨h1, h2⟩
    · rintro (⟨h1, h2⟩ | h2)
      · refine ⟨h1, ?_⟩
        rw [if_neg]
        · exact h2
        · intro e
          obtain ⟨rfl, rfl⟩ := idBytes_inj h1.1 h1.2 ha hb e
          have := hlt _ ((mem_all h (x1, x2, xv)).2 ⟨h1, h2⟩)
          rw [show idT2 (x1, x2, xv) = (x1, x2) from rfl, less_irrefl] at this
          cases this
      · simp only [Prod.mk.injEq] at h2
        obtain ⟨rfl, rfl, rfl⟩ := h2
        exact ⟨⟨ha, hb⟩, by rw [if_pos rfl]⟩
theorem told_del {T : Option RT} (h : WFO T) {a b : Nat} (ha : a < 18446744073709551616) (hb : b < 18446744073709551616) (hl : lookO T (idBytes a b) ≠ none) :
    toldL (delO T (idBytes a b)) (idBytes 0 0) = (toldL T (idBytes 0 0)).filter fun x => !decide (idT2 x = (a, b)) := by
  have hw := h.delO (idBytes_length a b) hl
  refine rises_ext (told_rise hw _) (List.Pairwise.filter _ (told_rise h _)) fun x => ?_
  rw [List.mem_filter, mem_all hw, mem_all h, look_delO h (idBytes_length a b) (idBytes_length _ _) hl]
  obtain ⟨x1, x2, xv⟩ := x
  simp only [idT2, Bool.not_eq_true', decide_eq_false_iff_not, Prod.mk.injEq]
  constructor
  · rintro ⟨h1, h2⟩
    split at h2
    · cases h2
    · next e => exact ⟨⟨h1, h2⟩, fun he => e (by rw [he.1, he.2])⟩
  · rintro ⟨⟨h1, h2⟩, h3⟩
    refine ⟨h1, ?_⟩
    rw [if_neg]
    · exact h2
    · intro e
      exact h3 (idBytes_inj h1.1 h1.2 ha hb e)
theorem look_some {T : Option RT} (h : WFO T) {a b : Nat} (ha : a < 18446744073709551616) (hb : b < 18446744073709551616) : (lookO T (idBytes a b)).isSome = (toldL T (idBytes 0 0)).any fun x => decide (idT2 x = (a, b)) := by
  cases hl : lookO T (idBytes a b) with
  | none =>
    symm
    rw [Option.isSome_none, List.any_eq_false]
    intro x hx
    simp only [decide_eq_true_eq]
    intro e
    obtain ⟨x1, x2, xv⟩ := x
    simp only [idT2, Prod.mk.injEq] at e
    obtain ⟨rfl, rfl⟩ := e
    have := ((mem_all h _).1 hx).2
    dsimp only at this
    rw [hl] at this
    cases this
  | some v =>
    symm
    rw [Option.isSome_some, List.any_eq_true]
    exact ⟨(a, b, v), (mem_all h _).2 ⟨⟨ha, hb⟩, hl⟩, by simp [idT2]⟩
end Go.Proofs.YtmaemgihhipllaaGreatDoor.Sad

/- (*stream.Stream).Delete, SetLast, Last; the law's top. -/
namespace Go.Proofs.YtmaemgihhipllaaGreatDoor.Sad
open Go.Proofs.YtmaemgihhipllaaGreatDoor
set_option linter.unusedVariables false
set_option linter.unusedSimpArgs false
open Go.RowKit RT Go.Shelf
set_option maxHeartbeats 3200000 in
set_option maxRecDepth 100000 in
theorem stmDelete {w : World} {s p : Nat} {G : Nat → Prop} {T : Option RT} {n ms q : Nat} (h : StmF w s p G T n ms q) {a b : Nat} (ha : a < 18446744073709551616) (hb : b < 18446744073709551616) (hn : n ≤ 1000000000) (hl : lookO T (idBytes a b) ≠ none → 0 < n) :
    Calls Tryz.prog 12 #[ptrV s, .agg #[.int .u64 a, .int .u64 b]] w fun e w' => e = .returned (.bool (lookO T (idBytes a b)).isSome) ∧ ∃ G', StmF w' s p G' (if (lookO T (idBytes a b)).isSome then delO T (idBytes a b) else T) (if (lookO T (idBytes a b)).isSome then n - 1 else n) ms q ∧ Fresh w G G' ∧ Chg G w w' := by
  obtain ⟨w1, hw1⟩ : ∃ w1, w1 = w.alloc (.cells #[.int .u64 a, .int .u64 b] 41) := ⟨_, rfl⟩
  have hb1 : Below w.heap.size w w1 := by rw [hw1]; exact (Below.refl _ _).alloc (Nat.le_refl _) _
  have hh1 : w1.heap[w.heap.size]? = some (.cells #[.int .u64 a, .int .u64 b] 41 (0, 0)) := by rw [hw1]; exact heap_new _ _
  have h1 := h.below hb1
  have h1d := h1.below (belowN (Below.refl w1.heap.size w1) 1)
  have HC := Lib.hid (show ∀ w', Below w1.heap.size w1 w' → (w'.cell? ⟨s, 0, none⟩ = some (ptrV p)) ∧ w'.cell? ⟨w.heap.size, 0, none⟩ = some (.int .u64 a) ∧ w'.cell? ⟨w.heap.size, 1, none⟩ = some (.int .u64 b) from fun w' hb => by
    have e1 := (hb.block _ (heap_lt h1.head)).trans h1.head
    have e2 := (hb.block _ (heap_lt hh1)).trans hh1
    exact ⟨cell_in e1 rfl, cell_in e2 rfl, cell_in e2 rfl⟩)
  have HT := Lib.hid (stmThere h1d)
  have HD := radDelete h1d.tree ha hb hn hl
  unfold Deleted at HD
  have HD2 := Lib.hid HD
  obtain ⟨x, hx⟩ : ∃ x, (lookO T (idBytes a b)).isSome = x := ⟨_, rfl⟩
  rw [hx] at HD2 ⊢
  obtain ⟨T', hT'⟩ : ∃ T', (if x then delO T (idBytes a b) else T) = T' := ⟨_, rfl⟩
  obtain ⟨n', hn'⟩ : ∃ n', (if x then n - 1 else n) = n' := ⟨_, rfl⟩
  rw [hT', hn'] at HD2 ⊢
  have HEnd := Lib.hid (show ∀ w' G', TreeF w' p G' T' n' → Fresh w1 G G' → Chg G (w1.drewN 1) w' → StmF w' s p G' T' n' ms q ∧ Fresh w G G' ∧ Chg G w w' from fun w' G' ht hf hc0 => by
    have hc := (Chg.drewN G w1 1).trans hc0 fun _ h _ => h
    have hs1 := heap_lt h.head
    refine ⟨⟨hc.keep h1.head h.own, ht, fun hg => ?_, h.ms_lt, h.q_lt⟩, fun k hk => (hf k hk).imp id fun h => Nat.le_trans hb1.size h, (Chg.of_below G hb1).trans hc fun k hk _ => hk⟩
    rcases hf s hg with h' | h'
    · exact h.own h'
    · have := heap_lt h1.head; omega)
  have HW := Lib.hid hw1
  have c0 := HC.out w1.drew (belowN (Below.refl _ _) 1)
  obtain ⟨X1, f, hX1, hf, hF⟩ := classOf (fun w' => (w'.cell? ⟨s, 0, none⟩ = some (ptrV p)) ∧ w'.cell? ⟨w.heap.size, 0, none⟩ = some (.int .u64 a) ∧ w'.cell? ⟨w.heap.size, 1, none⟩ = some (.int .u64 b)) (w := w1.drew) c0
  have f1 := fun x => (hf x).1
  have f2 := fun x => (hf x).2.1
  have f3 := fun x => (hf x).2.2
  have HFa := Lib.hid (hF w1.drew c0)
  clear hF hf h h1 h1d hw1 hb1 hh1 HD hx hT' hn' c0 hl hn
  unfold ptrV at *
  go_enter Tryz.func12, Tryz.ntmps12
  go_wp2_with fail
  rw [← HW.out]
  refine wp_region_text ⟨[1, 8], [9, 10], 8⟩ (fun w' => ∃ x : X1, w' = f x) (by kernel_rfl) (by kernel_rfl) HFa.out ?_
  refine wpC_seg false (HFa.out) 1 0 _ _ (by rfl) (by rfl) ?_
  simp only [List.take_succ_cons, List.take_zero, List.drop_succ_cons, List.drop_zero, Bool.false_eq_true, if_false, Nat.zero_add, Nat.reduceAdd]
  repeat (go_big_quiet_step (fail))
  refine wpQuiet_nil ?_
  refine wpC_loud (by rfl) (by rfl) fun K hK => ?_
  go_wp2_with fail
  refine HT.out.mono ?_
  rintro e w2 ⟨rfl, hww⟩
  rw [hww]
  refine hK _ _ (fun _ => HFa.out) ?_
  clear hK
  refine wpC_seg false (HFa.out) 6 2 _ _ (by rfl) (by rfl) ?_
  simp only [List.take_succ_cons, List.take_zero, List.drop_succ_cons, List.drop_zero, Bool.false_eq_true, if_false, Nat.zero_add, Nat.reduceAdd]
  repeat (go_big_quiet_step (fail))
  refine wpQuiet_nil ?_
  refine wpC_loud (by rfl) (by rfl) fun K hK => ?_
  go_wp2_with fail
  refine HD2.out.mono ?_
  rintro e w3 ⟨rfl, G', t3, fr3, c3⟩
  have HE := Lib.hid (HEnd.out w3 G' t3 fr3 c3)
  refine hK _ _ (fun h => absurd h (by decide)) ?_
  clear hK t3 fr3 c3
  refine wpC_segD 2 9 _ _ (by rfl) (by rfl) ?_
  simp only [List.take_succ_cons, List.take_zero, List.drop_succ_cons, List.drop_zero, if_true, Nat.zero_add, Nat.reduceAdd]
  repeat (go_big_quiet_step (fail))
  refine wpQuiet_nil ?_
  refine wpC_nil ?_
  clear f1 f2 f3 hX1 HFa f hww HT HD2
  go_wp2_with fail
  go_ret
  exact ⟨rfl, _, HE.out⟩
set_option maxHeartbeats 3200000 in
set_option maxRecDepth 100000 in
theorem stmSetLast {w : World} {s p : Nat} {G : Nat → Prop} {T : Option RT} {n ms q : Nat} (h : StmF w s p G T n ms q) {a b : Nat} (ha : a < 18446744073709551616) (hb : b < 18446744073709551616) :
    Calls Tryz.prog 13 #[ptrV s, .agg #[.int .u64 a, .int .u64 b]] w fun e w' =>
      (lessN (a, b) (ms, q) = true ∧ e = .returned (.int .i64 1) ∧ Below w.heap.size w w') ∨ (lessN (a, b) (ms, q) = false ∧ e = .returned (.int .i64 0) ∧ StmF w' s p G T n a b ∧ Chg (fun k => k = s) w w') := by
  obtain ⟨w1, hw1⟩ : ∃ w1, w1 = w.alloc (.cells #[.int .u64 a, .int .u64 b] 41) := ⟨_, rfl⟩
  have hb1 : Below w.heap.size w w1 := by rw [hw1]; exact (Below.refl _ _).alloc (Nat.le_refl _) _
  have hh1 : w1.heap[w.heap.size]? = some (.cells #[.int .u64 a, .int .u64 b] 41 (0, 0)) := by rw [hw1]; exact heap_new _ _
  have h1 := h.below hb1
  have HC := Lib.hid (show ∀ w', Below w1.heap.size w1 w' → (w'.cell? ⟨s, 1, none⟩ = some (.int .u64 ms) ∧ w'.cell? ⟨s, 2, none⟩ = some (.int .u64 q)) ∧ w'.cell? ⟨w.heap.size, 0, none⟩ = some (.int .u64 a) ∧ w'.cell? ⟨w.heap.size, 1, none⟩ = some (.int .u64 b) from fun w' hb => by
    have e1 := (hb.block _ (heap_lt h1.head)).trans h1.head
    have e2 := (hb.block _ (heap_lt hh1)).trans hh1
    exact ⟨⟨cell_in e1 rfl, cell_in e1 rfl⟩, cell_in e2 rfl, cell_in e2 rfl⟩)
  have HT := Lib.hid (stmThere h1)
  have HBl := Lib.hid (fun w' => stmBelow a b ms q w')
  have HW := Lib.hid hw1
  have HEnd := Lib.hid (show ∀ w', Below w1.heap.size w1 w' → Below w.heap.size w w' ∧ (w'.frozen? ⟨s, 1, none⟩ = false ∧ (w'.setCell ⟨s, 1, none⟩ (.int .u64 a)).cell? ⟨s, 2, none⟩ = some (.int .u64 q) ∧ (w'.setCell ⟨s, 1, none⟩ (.int .u64 a)).frozen? ⟨s, 2, none⟩ = false) ∧ StmF ((w'.setCell ⟨s, 1, none⟩ (.int .u64 a)).setCell ⟨s, 2, none⟩ (.int .u64 b)) s p G T n a b ∧ Chg (fun k => k = s) w ((w'.setCell ⟨s, 1, none⟩ (.int .u64 a)).setCell ⟨s, 2, none⟩ (.int .u64 b)) from fun w' hb' => by
    have bb := hb1.trans (hb'.mono hb1.size)
    have e1 := (hb'.block _ (heap_lt h1.head)).trans h1.head
    have e2 := setCell_head e1 1 (.int .u64 a)
    have e3 := setCell_head e2 2 (.int .u64 b)
    have cS : Chg (fun k => k = s) w' ((w'.setCell ⟨s, 1, none⟩ (.int .u64 a)).setCell ⟨s, 2, none⟩ (.int .u64 b)) := (Chg.setCell (fun j => j = s) w' _ _ rfl).trans (Chg.setCell (fun j => j = s) _ _ _ rfl) fun _ h _ => h
    exact ⟨bb, ⟨frozen_in e1 1, cell_in e2 rfl, frozen_in e2 2⟩, ⟨e3, (h1.tree.below hb').chg cS (fun k hk e => h.own (e ▸ hk)), h.own, ha, hb⟩, (Chg.of_below _ bb).trans cS fun _ h _ => h⟩)
  obtain ⟨x, hx⟩ : ∃ x, lessN (a, b) (ms, q) = x := ⟨_, rfl⟩
  rw [hx] at HBl ⊢
  have c0 := HC.out w1.drew (belowN (Below.refl _ _) 1)
  obtain ⟨X1, f, hX1, hf, hF⟩ := classOf (fun w' => (w'.cell? ⟨s, 1, none⟩ = some (.int .u64 ms) ∧ w'.cell? ⟨s, 2, none⟩ = some (.int .u64 q)) ∧ w'.cell? ⟨w.heap.size, 0, none⟩ = some (.int .u64 a) ∧ w'.cell? ⟨w.heap.size, 1, none⟩ = some (.int .u64 b)) (w := w1.drew) c0
  have f1 := fun x => (hf x).1.1
  have f2 := fun x => (hf x).1.2
  have f3 := fun x => (hf x).2.1
  have f4 := fun x => (hf x).2.2
  have HFa := Lib.hid (hF w1.drew c0)
  clear hF hf h h1 hw1 hb1 hh1 hx c0 ha hb
  unfold ptrV at HT
  unfold ptrV
  go_enter Tryz.func13, Tryz.ntmps13
  go_wp2_with fail
  rw [← HW.out]
  refine HT.out.mono ?_
  rintro e w' ⟨rfl, hww⟩
  rw [hww]
  clear hww w'
  go_upto_region 3 with (fail)
  refine wp_region_text ⟨[5], [6], 5⟩ (fun w' => ∃ x : X1, w' = f x) (by kernel_rfl) (by kernel_rfl) HFa.out ?_
  refine wpC_seg false (HFa.out) 5 0 _ _ (by rfl) (by rfl) ?_
  simp only [List.take_succ_cons, List.take_zero, List.drop_succ_cons, List.drop_zero, Bool.false_eq_true, if_false, Nat.zero_add, Nat.reduceAdd]
  repeat (go_big_quiet_step (fail))
  refine wpQuiet_nil ?_
  refine wpC_loud (by rfl) (by rfl) fun K hK => ?_
  go_wp2_with fail
  refine (HBl.out _).mono ?_
  rintro e w2 ⟨rfl, b2⟩
  have HB2 := Lib.hid ((belowN (Below.refl w1.heap.size w1) 1).trans b2)
  refine hK _ _ (fun h => absurd h (by decide)) ?_
  clear hK b2
  refine wpC_segD 1 6 _ _ (by rfl) (by rfl) ?_
  simp only [List.take_succ_cons, List.take_zero, List.drop_succ_cons, List.drop_zero, if_true, Nat.zero_add, Nat.reduceAdd]
  repeat (go_big_quiet_step (fail))
  refine wpQuiet_nil ?_
  refine wpC_nil ?_
  clear f1 f2 f3 f4 hX1 HFa f
  cases x
  case' true =>
    go_wp2_with fail
    go_ret
    exact ⟨rfl, (HEnd.out _ HB2.out).1⟩
  case' false =>
    obtain ⟨⟨d1, d2⟩, d3, d4⟩ := HC.out w2 HB2.out
    obtain ⟨g1, g2, g3⟩ := (HEnd.out _ HB2.out).2.1
    have HE := Lib.hid ((HEnd.out _ HB2.out).2.2)
    clear HEnd HC
    go_wp2_with fail
    go_ret
    exact ⟨rfl, HE.out⟩
set_option maxHeartbeats 3200000 in
set_option maxRecDepth 100000 in
theorem top_any (w : World) : Calls Tryz.prog 7 #[] w fun e w' => e = .returned (.agg #[.int .u64 18446744073709551615, .int .u64 18446744073709551615]) ∧ Below w.heap.size w w' := by
  obtain ⟨w1, hw1⟩ : ∃ w1, w1 = w.alloc (.cells #[.int .u64 18446744073709551615, .int .u64 18446744073709551615] 41) := ⟨_, rfl⟩
  have hb1 : Below w.heap.size w w1 := by rw [hw1]; exact (Below.refl _ _).alloc (Nat.le_refl _) _
  have hh1 : w1.heap[w.heap.size]? = some (.cells #[.int .u64 18446744073709551615, .int .u64 18446744073709551615] 41 (0, 0)) := by rw [hw1]; exact heap_new _ _
  have HE := Lib.hid (show (w1.cell? ⟨w.heap.size, 0, none⟩ = some (.int .u64 18446744073709551615) ∧ w1.cell? ⟨w.heap.size, 1, none⟩ = some (.int .u64 18446744073709551615)) ∧ Below w.heap.size w w1 from ⟨⟨cell_in hh1 rfl, cell_in hh1 rfl⟩, hb1⟩)
  have HW := Lib.hid hw1
  clear hw1 hb1 hh1
  go_enter Tryz.func7, Tryz.ntmps7
  go_wp2_with fail
  rw [← HW.out]
  exact bodyPost_ret (v := .agg #[.int .u64 18446744073709551615, .int .u64 18446744073709551615]) (by have h := HE.out.1; simp [results, Tryz.results7, go_sem, h.1, h.2]) rfl ⟨rfl, HE.out.2⟩
end Go.Proofs.YtmaemgihhipllaaGreatDoor.Sad

/- entries in memory: what a tree tells and which pairs its rows hold; slices of entries. -/
namespace Go.Proofs.YtmaemgihhipllaaGreatDoor.Sad
open Go.Proofs.YtmaemgihhipllaaGreatDoor
set_option linter.unusedVariables false
set_option linter.unusedSimpArgs false
open Go.RowKit RT Go.Shelf
abbrev Ent := (Nat × Nat) × List PairT
theorem pairRow_one {w : World} {a : Option Addr} {n c : Nat} {L M : List PairT} (h : PairRow w a n c L) (k : PairRow w a n c M) : L = M := by
  apply List.ext_getElem (by rw [h.1, k.1])
  intro i h1 h2
  obtain ⟨b, o, e, _, d0, d1⟩ := h.cells (i := i) (by rw [← h.1]; exact h1)
  obtain ⟨b', o', e', _, d0', d1'⟩ := k.cells (i := i) (by rw [← h.1]; exact h1)
  rw [e] at e'
  cases e'
  rw [d0] at d0'
  rw [d1] at d1'
  simp only [Option.some.injEq, Value.string.injEq] at d0' d1'
  have g1 : L.getD i e0 = L[i] := by simp [List.getD, h1]
  have g2 : M.getD i e0 = M[i] := by simp [List.getD, h2]
  rw [g1, g2] at d0' d1'
  exact Prod.ext d0' d1'
/-- One thing told and its entry: the same identifier; the row holds the entry's pairs, in a block of Q. -/
def RowIs (w : World) (Q : Nat → Prop) (x : Told) (e : Ent) : Prop :=
  idT2 x = e.1 ∧ PairRow w x.2.2.1 x.2.2.2.1 x.2.2.2.2 e.2 ∧ (0 < x.2.2.2.1 ∧ x.2.2.2.1 ≤ 4000000000000) ∧ ∃ b, x.2.2.1 = some ⟨b, 0, none⟩ ∧ Q b
def Rows2 (w : World) (Q : Nat → Prop) : List Told → List Ent → Prop
  | [], [] => True
  | x :: xs, e :: es => RowIs w Q x e ∧ Rows2 w Q xs es
  | _, _ => False
section
variable {w w' : World} {Q Q' : Nat → Prop}
theorem RowIs.chg {x : Told} {e : Ent} (h : RowIs w Q x e) {S : Nat → Prop} (hc : Chg S w w') (hs : ∀ b, Q b → ¬ S b) : RowIs w' Q x e := by
  obtain ⟨h1, h2, h3, b, h4, h5⟩ := h
  exact ⟨h1, h2.chg hc (fun b' o' e => by rw [h4] at e; cases e; exact hs b h5), h3, b, h4, h5⟩
theorem RowIs.imp {x : Told} {e : Ent} (h : RowIs w Q x e) (hq : ∀ b, b < w.heap.size → Q b → Q' b) : RowIs w Q' x e := by
  obtain ⟨h1, h2, h3, b, h4, h5⟩ := h
  refine ⟨h1, h2, h3, b, h4, hq b ?_ h5⟩
  obtain ⟨b', o', e', hlt, _⟩ := h2.cells (i := 0) h3.1
  rw [h4] at e'; cases e'; exact hlt
theorem Rows2.chg {S : Nat → Prop} (hc : Chg S w w') (hs : ∀ b, Q b → ¬ S b) : ∀ {xs : List Told} {es : List Ent}, Rows2 w Q xs es → Rows2 w' Q xs es
  | [], [], _ => trivial
  | x :: xs, e :: es, h => ⟨h.1.chg hc hs, h.2.chg hc hs⟩
  | [], _ :: _, h => h.elim
  | _ :: _, [], h => h.elim
theorem Rows2.imp (hq : ∀ b, b < w.heap.size → Q b → Q' b) : ∀ {xs : List Told} {es : List Ent}, Rows2 w Q xs es → Rows2 w Q' xs es
  | [], [], _ => trivial
  | x :: xs, e :: es, h => ⟨h.1.imp hq, h.2.imp hq⟩
  | [], _ :: _, h => h.elim
  | _ :: _, [], h => h.elim
theorem Rows2.length : ∀ {xs : List Told} {es : List Ent}, Rows2 w Q xs es → xs.length = es.length
  | [], [], _ => rfl
  | x :: xs, e :: es, h => by rw [List.length_cons, List.length_cons, h.2.length]
  | [], _ :: _, h => h.elim
  | _ :: _, [], h => h.elim
theorem Rows2.append : ∀ {xs ys : List Told} {es fs : List Ent}, Rows2 w Q xs es → Rows2 w Q ys fs → Rows2 w Q (xs ++ ys) (es ++ fs)
  | [], _, [], _, _, k => k
  | x :: xs, _, e :: es, _, h, k => ⟨h.1, h.2.append k⟩
  | [], _, _ :: _, _, h, _ => h.elim
  | _ :: _, _, [], _, h, _ => h.elim
theorem Rows2.get : ∀ {xs : List Told} {es : List Ent} (h : Rows2 w Q xs es) (i : Nat) (h1 : i < xs.length) (h2 : i < es.length), RowIs w Q xs[i] es[i]
  | x :: xs, e :: es, h, 0, _, _ => h.1
  | x :: xs, e :: es, h, i + 1, h1, h2 => h.2.get i (by simpa using h1) (by simpa using h2)
  | [], _ :: _, h, _, _, _ => h.elim
  | _ :: _, [], h, _, _, _ => h.elim
theorem Rows2.mem : ∀ {xs : List Told} {es : List Ent}, Rows2 w Q xs es → ∀ x ∈ xs, ∃ e ∈ es, RowIs w Q x e
  | x :: xs, e :: es, h, y, hy => by
    rcases List.mem_cons.1 hy with rfl | hy
    · exact ⟨e, by simp, h.1⟩
    · obtain ⟨e', h1, h2⟩ := h.2.mem y hy
      exact ⟨e', by simp [h1], h2⟩
  | [], _ :: _, h, _, _ => h.elim
  | _ :: _, [], h, _, _ => h.elim
/-- The pairs that a row holds. -/
noncomputable def rowOf (w : World) (x : Told) : List PairT := Classical.epsilon fun L => PairRow w x.2.2.1 x.2.2.2.1 x.2.2.2.2 L
theorem rowOf_eq {x : Told} {L : List PairT} (h : PairRow w x.2.2.1 x.2.2.2.1 x.2.2.2.2 L) : rowOf w x = L := by
  have := Classical.epsilon_spec (p := fun L => PairRow w x.2.2.1 x.2.2.2.1 x.2.2.2.2 L) ⟨L, h⟩
  exact pairRow_one this h
noncomputable def entOf (w : World) (x : Told) : Ent := (idT2 x, rowOf w x)
theorem RowIs.ent {x : Told} {e : Ent} (h : RowIs w Q x e) : entOf w x = e := by
  unfold entOf
  rw [rowOf_eq h.2.1, h.1]
theorem Rows2.ents : ∀ {xs : List Told} {es : List Ent}, Rows2 w Q xs es → es = xs.map (entOf w)
  | [], [], _ => rfl
  | x :: xs, e :: es, h => by rw [List.map_cons, ← h.2.ents, h.1.ent]
  | [], _ :: _, h => h.elim
  | _ :: _, [], h => h.elim
theorem Rows2.filter {p : Ent → Bool} : ∀ {xs : List Told} {es : List Ent}, Rows2 w Q xs es → Rows2 w Q (xs.filter fun x => p (entOf w x)) (es.filter p)
  | [], [], _ => trivial
  | x :: xs, e :: es, h => by
    rw [List.filter_cons, List.filter_cons, h.1.ent]
    split
    · exact ⟨h.1, h.2.filter⟩
    · exact h.2.filter
  | [], _ :: _, h => h.elim
  | _ :: _, [], h => h.elim
end
/-- An entry's cells. -/
def entV (x : Told) : List Value := [.int .u64 x.1, .int .u64 x.2.1, vC x.2.2]
/-- The row of pairs of what is told is known whole, spare room included. -/
def Whole (w : World) (n₀ : Nat) (x : Told) : Prop := ∃ xs, SliceN w n₀ 68 2 (vC x.2.2) x.2.2.2.1 xs
theorem Wholes.chg {w w' : World} {n₀ : Nat} {Q S : Nat → Prop} (hc : Chg S w w') (hs : ∀ b, Q b → ¬ S b) {Vs : List Told} {E : List Ent} (hR : Rows2 w Q Vs E) (h : ∀ x ∈ Vs, Whole w n₀ x) : ∀ x ∈ Vs, Whole w' n₀ x := fun x hx => by
  obtain ⟨e, _, hr⟩ := hR.mem x hx
  obtain ⟨_, _, _, b, hb, hq⟩ := hr
  obtain ⟨xs, h1⟩ := h x hx
  refine ⟨xs, h1.chg hc fun k hk => ?_⟩
  have : vblock (vC x.2.2) = some b := by unfold vC; rw [hb]; rfl
  rw [this] at hk; cases hk
  exact hs b hq
theorem Whole.mono {w : World} {n₀ n₁ : Nat} {x : Told} (h : Whole w n₀ x) (hn : n₁ ≤ n₀) : Whole w n₁ x := by
  obtain ⟨xs, h⟩ := h
  exact ⟨xs, h.mono hn⟩
theorem Whole.below {w w' : World} {n₀ : Nat} {x : Told} (h : Whole w n₀ x) (hb : Below w.heap.size w w') : Whole w' n₀ x := by
  obtain ⟨xs, h⟩ := h
  exact ⟨xs, h.below hb⟩
/-- A slice of entries that a call made itself, from block n₀ on: its row, and a row of pairs for each, all of them different. -/
def EntsOut (w : World) (n₀ : Nat) (v : Value) (E : List Ent) : Prop :=
  ∃ Vs : List Told, SliceN w n₀ 50 3 v Vs.length (Vs.flatMap entV) ∧ Rows2 w (fun b => n₀ ≤ b ∧ vblock v ≠ some b) Vs E ∧ (Vs.map fun x => x.2.2.1).Nodup ∧ ∀ x ∈ Vs, Whole w n₀ x
theorem EntsOut.nil (w : World) (n₀ : Nat) : EntsOut w n₀ (.slice none 0 0) [] := ⟨[], SliceN.nil _ _ _ _, trivial, by simp, by simp⟩
theorem EntsOut.below {w w' : World} {n₀ : Nat} {v : Value} {E : List Ent} (h : EntsOut w n₀ v E) (hb : Below w.heap.size w w') : EntsOut w' n₀ v E := by
  obtain ⟨Vs, h1, h2, h3⟩ := h
  exact ⟨Vs, h1.below hb, Rows2.chg (Chg.of_below (fun _ => False) hb) (fun _ _ => id) h2, h3.1, fun x hx => (h3.2 x hx).below hb⟩
theorem info_entry : (Tryz.prog.info? 50).map (fun i => (i.zero, i.size, i.bytes)) = some (some (.agg #[.int .u64 0, .int .u64 0, .slice none 0 0]), 3, 40) := by kernel_rfl
set_option maxHeartbeats 400000 in
/-- One entry more. -/
theorem EntsOut.append {W w : World} {n₀ : Nat} {v : Value} {E : List Ent} (h0 : EntsOut W n₀ v E) (hb : Below W.heap.size W w) {x : Told} {e : Ent} (hn : n₀ ≤ W.heap.size) (hx : RowIs w (fun b => W.heap.size ≤ b) x e) (hxw : Whole w W.heap.size x) (hsz : E.length + 1 ≤ 1000000000) :
    ∃ v' w', (Builtin.append_ #[37, 37] 37 #[v, .slice (some ⟨w.heap.size, 0, none⟩) 1 1]).run Tryz.prog (w.alloc (.cells (entV x).toArray 50)) = .ok v' w' ∧ EntsOut w' n₀ v' (E ++ [e]) ∧ Chg (fun k => vblock v = some k) w w' ∧ (vblock v' = vblock v ∨ ∃ k, vblock v' = some k ∧ w.heap.size ≤ k) := by
  have hB : ∀ k, vblock v = some k → k < W.heap.size := fun k hk => by
    obtain ⟨Vs, h1, _⟩ := h0
    exact (h1.block_lt hk).2
  have hov0 : ∀ Vs, Rows2 W (fun b => n₀ ≤ b ∧ vblock v ≠ some b) Vs E → Rows2 w (fun b => b < W.heap.size) Vs E := fun Vs h2 => Rows2.chg (Chg.of_below (fun _ => False) hb) (fun _ _ => id) (Rows2.imp (fun b hlt _ => hlt) h2)
  have h := h0.below hb
  obtain ⟨B, hBe⟩ : ∃ B, W.heap.size = B := ⟨_, rfl⟩
  rw [hBe] at hB hov0 hn hx hxw
  obtain ⟨Vs, h1', h2', h3'⟩ := h0
  have h1 := h1'.below hb
  have h2 := Rows2.chg (Chg.of_below (fun _ => False) hb) (fun _ _ => id) h2'
  have h3 := h3'.1
  have h4 : ∀ x ∈ Vs, Whole w n₀ x := fun x hx => (h3'.2 x hx).below hb
  have hlen := h2.length
  have hov := hov0 Vs h2'
  obtain ⟨i0, g1, g2, g3, g4⟩ := info_parts info_entry
  have hBw : B ≤ w.heap.size := by
    obtain ⟨_, hp, h0, b, hb, hB'⟩ := hx
    obtain ⟨b', o', e', hlt, _⟩ := hp.cells (i := 0) h0.1
    rw [hb] at e'; cases e'; omega
  obtain ⟨v', w', hr, s2, c2, hv2⟩ := run_append_oneN (P := Tryz.prog) (t := 37) (ty := 37) (z := 3) (w := w) Tryz.underlying37 g1 g2 g3 g4 rfl h1 (by omega) (entV x) rfl (by simp [entV, Value.oneCell']) (by unfold maxLen; omega) (by omega)
  refine ⟨v', w', hr, ⟨Vs ++ [x], ?_, ?_, ?_, ?_⟩, c2, hv2⟩
  · rw [List.length_append, List.flatMap_append]
    simpa using s2
  · have hne : ∀ b, b < w.heap.size → vblock v ≠ some b → vblock v' ≠ some b := fun b hb hv e => by
      rcases hv2 with h | ⟨k, h, hk⟩
      · exact hv (h ▸ e)
      · rw [h] at e; cases e; omega
    refine Rows2.append ?_ ⟨?_, trivial⟩
    · have h2' : Rows2 w (fun b => (n₀ ≤ b ∧ b < w.heap.size) ∧ vblock v ≠ some b) Vs E := Rows2.imp (fun b hlt hb => ⟨⟨hb.1, hlt⟩, hb.2⟩) h2
      exact Rows2.imp (fun b _ hb => ⟨hb.1.1, hne b hb.1.2 hb.2⟩) (Rows2.chg c2 (fun b hb he => hb.2 he) h2')
    · have hx2 : RowIs w (fun b => (n₀ ≤ b ∧ b < w.heap.size) ∧ vblock v ≠ some b) x e := hx.imp fun b hlt hb => ⟨⟨by omega, hlt⟩, fun hv => by have := hB b hv; omega⟩
      exact (hx2.chg c2 fun b hb he => hb.2 he).imp fun b _ hb => ⟨hb.1.1, hne b hb.1.2 hb.2⟩
  · rw [List.map_append, List.nodup_append]
    refine ⟨h3, by simp, fun a ha b hb hab => ?_⟩
    subst hab
    simp only [List.map_cons, List.map_nil, List.mem_singleton] at hb
    obtain ⟨y, hy, hya⟩ := List.mem_map.1 ha
    obtain ⟨ey, _, _, _, _, by', hy2, hlt⟩ := hov.mem y hy
    obtain ⟨_, _, _, bx, hx2, hge⟩ := hx
    rw [hb, hx2] at hya
    rw [hy2] at hya
    cases hya
    omega
  · have h2' : Rows2 w (fun b => (n₀ ≤ b ∧ b < w.heap.size) ∧ vblock v ≠ some b) Vs E := Rows2.imp (fun b hlt hb => ⟨⟨hb.1, hlt⟩, hb.2⟩) h2
    have hx2 : RowIs w (fun b => (n₀ ≤ b ∧ b < w.heap.size) ∧ vblock v ≠ some b) x e := hx.imp fun b hlt hb => ⟨⟨by omega, hlt⟩, fun hv => by have := hB b hv; omega⟩
    have hall : Rows2 w (fun b => (n₀ ≤ b ∧ b < w.heap.size) ∧ vblock v ≠ some b) (Vs ++ [x]) (E ++ [e]) := Rows2.append h2' ⟨hx2, trivial⟩
    refine Wholes.chg c2 (fun b hb he => hb.2 he) hall fun y hy => ?_
    rcases List.mem_append.1 hy with hy | hy
    · exact h4 y hy
    · have : y = x := by simpa using hy
      rw [this]
      exact hxw.mono hn
end Go.Proofs.YtmaemgihhipllaaGreatDoor.Sad

/- Regions that draw their order inside a round of a range over a function: Reg's walk serves there too. -/
namespace Go.Proofs.YtmaemgihhipllaaGreatDoor
set_option linter.unusedVariables false
set_option linter.unusedSimpArgs false
/-- No 'defer'. -/
def noDefer (o : Oper) : Bool := match o.op with
  | .defer _ => false
  | .call _ | .go _ | .send .. | .recv .. | .select .. => true
  | _ => true
theorem noDefer_spec {o : Oper} (h : noDefer o = true) : ∀ c, o.op ≠ .defer c := by
  intro c hc
  unfold noDefer at h
  rw [hc] at h
  cases h
theorem rowsIn_wide' {n : Nat} {P : Program} {row : String} {args : Array Value} {w : World} {R : Value → World → Prop} {l : Nat} (h : Rows P row args w R) : RowsIn (Fence.wide.inRound l) n P row args w R := by
  intro c cs _
  obtain ⟨v, w', r, s⟩ := h c cs
  exact ⟨v, w', r, stepsIn_wide.2 s⟩
theorem callsIn_round {n : Nat} {P : Program} {f : FuncId} {args : Array Value} {w : World} {R : Ending → World → Prop} {l : Nat} (h : Calls P f args w R) : CallsIn (Fence.wide.inRound l) n P f args w R := callsIn_wide.2 h
section
variable {P : Program} {ops : Array Oper} {md : Region.Mode} {C : World → Prop} {Q : Act → World → Prop} {p : Plan}
theorem wpAnyIn_of_C {l n : Nat} {Q' : Exit → Act → World → Prop} (hnd : ∀ (i : Nat) (o : Oper), ops[i]? = some o → noDefer o = true) (hQ : ∀ a w, Q a w → Q' .normal a w) (hp : p.before md ops) : ∀ (fuel : Nat) (listed : Array Bool) (a : Act) (w : World), Closed md ops listed → listed.size = ops.size →
    wpAnyC P md ops p C Q fuel listed a w → wpAnyIn (Fence.wide.inRound l) n P md ops Q' fuel listed a w
  | 0, _, _, _, _, _, h => ⟨h.2.1, hQ _ _ h.2.2⟩
  | fuel + 1, listed, a, w, hcl, hsz, h => ⟨fun h0 => hQ _ _ (h.2.1 h0), fun i hi => by
      have h1 := h.2.2 i hi
      obtain ⟨hiun, o, ho, _⟩ := mem_ready.1 hi
      have next := fun a' w' => wpAnyIn_of_C (l := l) (n := n) hnd hQ hp fuel (listed.setIfInBounds i true) a' w' (hcl.set hi) (by simp [hsz])
      have hsem := Oper.semAt_eq (Fence.wide.inRound l).round a.eval o (noDefer_spec (hnd i o ho))
      unfold stepC at h1
      unfold wpOpIn
      simp only [ho] at h1 ⊢
      by_cases hl : p.L.contains i = true
      · simp only [hl, if_true] at h1
        unfold loudOp at h1
        split
        · rename_i hw
          simp only [hw, if_true] at h1
          unfold Oper.wp at h1
          unfold Oper.wpIn
          refine ⟨fun _ _ => trivial, ?_⟩
          rw [hsem]
          generalize (execOp a.eval o).run P w = r at *
          cases r with
          | ok n w' =>
            cases n <;> simp only [Oper.upon] at h1 <;> simp only [Oper.uponIn]
            case value u => exact next _ _ h1
            case skip => exact next _ _ h1
            case defer d => exact next _ _ h1
            case enter f args =>
              refine ⟨fun h => (by simp [Fence.wide] at h), CallsIn.mono (callsIn_round h1) fun e w'' he => ?_⟩
              cases e with
              | returned u => exact next _ _ he
              | panicked c => exact he.elim
              | outgrown => obtain ⟨_, _, he⟩ := he; exact he.elim
            case row row args => exact ⟨fun h => (by simp [Fence.wide] at h), RowsIn.mono (rowsIn_wide' h1) fun u w'' he => next _ _ he⟩
          | halt x w' => cases x <;> simp only [Oper.upon, QF] at h1
        · rename_i hw
          simp only [hw] at h1
          exact ⟨fun _ _ => trivial, next _ _ h1⟩
      · simp only [hl] at h1
        obtain ⟨v, hy, hK⟩ := h1
        have hiL : i ∉ p.L := by simpa using hl
        have hilt : i < ops.size := (Array.getElem?_eq_some_iff.1 ho).1
        have hc := cls_holds hp hcl hsz hiL hilt (unl hiun) h.1
        rcases hy with ⟨hw, hv⟩ | ⟨hw, rfl⟩
        · simp only [hw, if_true]
          unfold Oper.wpIn
          refine ⟨fun _ _ => trivial, ?_⟩
          rw [hsem]
          rcases hv w hc with hv1 | ⟨hv1, hu⟩
          · rw [hv1]; exact next _ _ hK
          · subst hu; rw [hv1]; exact next _ _ hK
        · simp only [hw, Bool.false_eq_true, if_false]; exact ⟨fun _ _ => trivial, next _ _ hK⟩⟩
/-- **A REGION THAT DRAWS ITS ORDER, INSIDE A ROUND, WALKED IN THE TEXT's ORDER.** -/
theorem wpIn_region_text {l0 n id : Nat} {Q' : Exit → Act → World → Prop} {a : Act} {w : World} {l : List Oper} (p : Plan) (C : World → Prop) (hm : P.follows .mixedOrders = true) (hB : p.okB .any l.toArray = true) (hnd : l.all noDefer = true)
    (hC : C w.drew) (h : wpC P l.toArray p C (fun a' w' => Q' .normal a' w') 0 l a w.drew) : (Code.region id l.toArray true).wpIn (Fence.wide.inRound l0) n P Q' a w := by
  simp only [Plan.okB, Region.lexB, Bool.and_eq_true, Bool.or_eq_true, decide_eq_true_eq, List.all_eq_true, List.mem_range] at hB
  obtain ⟨⟨⟨hs, hlex⟩, hm'⟩, hall⟩ := hB
  have hmL : p.m < l.toArray.size → p.m ∈ p.L := fun h1 => by
    rcases hm' with h2 | h2
    · omega
    · simpa using h2
  have hbef : p.before .any l.toArray := fun i hiL hiD hilt => by
    have h1 := hall i hilt
    simp only [show p.L.contains i = false by simpa using hiL, show p.D.contains i = false by simpa using hiD, Bool.false_eq_true, if_false, Bool.false_or, Bool.or_eq_true, decide_eq_true_eq, Bool.and_eq_true, bne_iff_ne] at h1
    rcases h1 with h1 | h1
    · exact .inl h1
    · exact .inr ⟨h1.1, depB_spec _ _ h1.2⟩
  have hord : ∀ k j, k ∈ p.L → j ∈ p.L → k < j → j < l.toArray.size → Dep .any l.toArray k j := fun k j hk hj hkj hjlt => by
    have h1 := hall j hjlt
    simp only [show p.L.contains j = true by simpa using hj, if_true, List.all_eq_true, Bool.or_eq_true, decide_eq_true_eq] at h1
    rcases h1 k hk with (h2 | h2) | h2
    · omega
    · omega
    · exact depB_spec _ _ h2
  have hcl : Closed Region.Mode.any l.toArray (Array.replicate l.toArray.size false) := fun j o _ hl' => by
    rcases Nat.lt_or_ge j l.toArray.size with h1 | h1 <;> simp_all
  refine wpIn_region_any hm (wpAnyIn_of_C (Q := fun a' w' => Q' .normal a' w') (p := p) (C := C) (fun i o ho => ?_) (fun _ _ h => h) hbef _ _ _ _ hcl (by simp) ?_)
  · have := List.all_eq_true.1 hnd o
    exact this (by
      have h1 := Array.mem_of_getElem? ho
      simpa using h1)
  have := wpAnyC_lex (C := C) hs hbef hmL hord l 0 (Array.replicate l.toArray.size false) a { w with drawn := w.drawn + 1 } (by simp) (by simp) hcl (by simp)
    (fun j hj => by simp_all) (by simpa using hlex) (fun _ => hC) h
  simpa using this
end
end Go.Proofs.YtmaemgihhipllaaGreatDoor

/- (*stream.Stream).Range. -/
namespace Go.Proofs.YtmaemgihhipllaaGreatDoor.Sad
open Go.Proofs.YtmaemgihhipllaaGreatDoor
set_option linter.unusedVariables false
set_option linter.unusedSimpArgs false
open Go.RowKit RT Go.Shelf
attribute [local go_sem] Oper.semAt_some
theorem cell_block {w : World} {b o : Nat} {v : Value} (h : w.cell? ⟨b, o, none⟩ = some v) : ∃ cs t fz, w.heap[b]? = some (.cells cs t fz) := by
  unfold World.cell? at h
  cases hh : w.heap[b]? with
  | none => simp [hh] at h
  | some x => cases x <;> simp [hh] at h ⊢
theorem PairRow.grown {W W' : World} {row : Option Nat} (hg : W.grownBy W' row) (hr : ∀ r, row = some r → ∃ o : Obj, W.heap[r]? = some o ∧ o.isCells = false) {a : Option Addr} {n c : Nat} {L : List PairT} (h : PairRow W a n c L) : PairRow W' a n c L := by
  refine ⟨h.1, h.2.1, h.2.2.imp id ?_⟩
  rintro ⟨b, o, e, hc⟩
  refine ⟨b, o, e, fun i hi => ?_⟩
  obtain ⟨cs, t, fz, hb⟩ := cell_block (hc i hi).1
  have hb' := grown_keep hg hr hb
  have e1 : ∀ x, W'.cell? ⟨b, x, none⟩ = W.cell? ⟨b, x, none⟩ := fun x => by unfold World.cell?; simp only [hb, hb']
  rw [e1, e1]
  exact hc i hi
theorem Rows2.grown {W W' : World} {Q : Nat → Prop} {row : Option Nat} (hg : W.grownBy W' row) (hr : ∀ r, row = some r → ∃ o : Obj, W.heap[r]? = some o ∧ o.isCells = false) : ∀ {xs : List Told} {es : List Ent}, Rows2 W Q xs es → Rows2 W' Q xs es
  | [], [], _ => trivial
  | x :: xs, e :: es, h => ⟨⟨h.1.1, PairRow.grown hg hr h.1.2.1, h.1.2.2⟩, Rows2.grown hg hr h.2⟩
  | [], _ :: _, h => h.elim
  | _ :: _, [], h => h.elim
theorem EntsOut.grown {W W' : World} {row : Option Nat} (hg : W.grownBy W' row) (hr : ∀ r, row = some r → ∃ o : Obj, W.heap[r]? = some o ∧ o.isCells = false) {n₀ : Nat} {v : Value} {E : List Ent} (h : EntsOut W n₀ v E) : EntsOut W' n₀ v E := by
  obtain ⟨Vs, h1, h2, h3⟩ := h
  exact ⟨Vs, grown_slice hg hr h1, Rows2.grown hg hr h2, h3.1, fun x hx => by obtain ⟨xs, hs⟩ := h3.2 x hx; exact ⟨xs, grown_slice hg hr hs⟩⟩
theorem EntsOut.chg {w w' : World} {n₀ : Nat} {v : Value} {E : List Ent} (h : EntsOut w n₀ v E) {S : Nat → Prop} (hc : Chg S w w') (hs : ∀ b, n₀ ≤ b → ¬ S b) : EntsOut w' n₀ v E := by
  obtain ⟨Vs, h1, h2, h3⟩ := h
  exact ⟨Vs, h1.chg hc fun k hk => hs k (h1.block_lt hk).1, Rows2.chg hc (fun b hb => hs b hb.1) h2, h3.1, Wholes.chg hc (fun b hb => hs b hb.1) h2 h3.2⟩
theorem EntsOut.mono {w : World} {n₀ n₁ : Nat} {v : Value} {E : List Ent} (h : EntsOut w n₀ v E) (hn : n₁ ≤ n₀) : EntsOut w n₁ v E := by
  obtain ⟨Vs, h1, h2, h3⟩ := h
  exact ⟨Vs, h1.mono hn, Rows2.imp (fun b _ hb => ⟨Nat.le_trans hn hb.1, hb.2⟩) h2, h3.1, fun x hx => (h3.2 x hx).mono hn⟩
theorem EntsOut.form {w : World} {n₀ : Nat} {v : Value} {E : List Ent} (h : EntsOut w n₀ v E) : ∃ a c, v = .slice a E.length c ∧ E.length ≤ c ∧ c ≤ maxLen := by
  obtain ⟨Vs, h1, h2, h3⟩ := h
  have := h1.form
  rw [h2.length] at this
  exact this
theorem EntsOut.vb {w : World} {n₀ : Nat} {v : Value} {E : List Ent} (h : EntsOut w n₀ v E) {g : Nat} (hg : vblock v = some g) : n₀ ≤ g ∧ g < w.heap.size ∧ ∃ cur fz, w.heap[g]? = some (.cells cur 50 fz) := by
  obtain ⟨Vs, h1, h2, h3⟩ := h
  refine ⟨(h1.block_lt hg).1, (h1.block_lt hg).2, ?_⟩
  obtain ⟨g', cap, cur, he, _, ⟨fz, _, hh⟩, _⟩ := h1.2.resolve_left (fun h => by rw [h.1] at hg; cases hg)
  rw [he] at hg
  cases hg
  exact ⟨cur, fz, hh⟩
theorem take_all {α : Type} {p : α → Bool} {m : Int} : ∀ (L : List α) (k : Nat), (∀ i (h : i < L.length), ((k + i : Nat) : Int) < m ∧ p L[i] = true) → (L.takeWhile p).take (m.toNat - k) = L
  | [], k, _ => by simp
  | x :: L, k, h => by
    have h0 := h 0 (by simp)
    have ih := take_all (p := p) (m := m) L (k + 1) fun i hi => by
      have := h (i + 1) (by simpa using hi)
      simpa [Nat.add_assoc, Nat.add_comm 1] using this
    rw [List.takeWhile_cons, if_pos (by simpa using h0.2)]
    have e : m.toNat - k = (m.toNat - (k + 1)) + 1 := by have := h0.1; omega
    rw [e, List.take_succ_cons, ih]
theorem take_pre {α : Type} {p : α → Bool} {m : Int} (rest : List α) (x : α) : ∀ (L : List α) (k : Nat), (∀ i (h : i < L.length), ((k + i : Nat) : Int) < m ∧ p L[i] = true) → (m ≤ ((k + L.length : Nat) : Int) ∨ p x = false) → ((L ++ x :: rest).takeWhile p).take (m.toNat - k) = L
  | [], k, _, hx => by
    rw [List.nil_append, List.takeWhile_cons]
    rcases hx with hx | hx
    · have e : m.toNat - k = 0 := by simp at hx; omega
      rw [e]; simp
    · rw [if_neg (by simp [hx])]; simp
  | y :: L, k, h, hx => by
    have h0 := h 0 (by simp)
    have ih := take_pre (p := p) (m := m) rest x L (k + 1) (fun i hi => by
      have := h (i + 1) (by simpa using hi)
      simpa [Nat.add_assoc, Nat.add_comm 1] using this) (by simpa [Nat.add_assoc, Nat.add_comm 1] using hx)
    rw [List.cons_append, List.takeWhile_cons, if_pos (by simpa using h0.2)]
    have e : m.toNat - k = (m.toNat - (k + 1)) + 1 := by have := h0.1; omega
    rw [e, List.take_succ_cons, ih]
/-- What Range has collected. -/
def GotE (w : World) (n₀ c d : Nat) (most : Int) {α : Type} (val : α → Told) (pre : List α) (W : World) : Prop :=
  Below n₀ w W ∧ n₀ + 6 ≤ W.heap.size ∧ (W.heap[n₀ + 1]? = some (.cells #[.int .u64 c, .int .u64 d] 41 (0, 0)) ∧ W.heap[n₀ + 1 + 1]? = some (.cells #[.int .i64 most] 3 (0, 0))) ∧
    (∃ v, W.heap[n₀ + 1 + 1 + 1]? = some (.cells #[v] 37 (0, 0)) ∧ EntsOut W (n₀ + 6) v (pre.map fun x => entOf w (val x))) ∧ ∀ i (h : i < pre.length), (i : Int) < most ∧ (!lessN (c, d) (idT2 (val pre[i]))) = true
theorem GotE.own {w : World} {n₀ c d : Nat} {most : Int} {α : Type} {val : α → Told} {B : Nat} (hB : n₀ ≤ B) : OwnFrom B (GotE w n₀ c d most val) := by
  rintro pre W W' row ⟨h1, h2, ⟨h3, h4⟩, ⟨v, h5, h6⟩, h7⟩ hg hr
  exact ⟨grown_below h1 hg (fun r e => (hr r e).1) hB (by omega), Nat.le_trans h2 hg.size, ⟨grown_keep hg (fun r e => (hr r e).2) h3, grown_keep hg (fun r e => (hr r e).2) h4⟩, ⟨v, grown_keep hg (fun r e => (hr r e).2) h5, h6.grown hg fun r e => (hr r e).2⟩, h7⟩
/-- .. and stopped. -/
def StopE (w : World) (n₀ c d : Nat) (most : Int) {α : Type} (val : α → Told) (cd : Code) (ys : List α) (W : World) : Prop :=
  cd = .exit 0 ∧ ∃ pre x, ys = pre ++ [x] ∧ GotE w n₀ c d most val pre W ∧ (most ≤ (pre.length : Int) ∨ (!lessN (c, d) (idT2 (val x))) = false)
theorem StopE.own {w : World} {n₀ c d : Nat} {most : Int} {α : Type} {val : α → Told} {cd : Code} {B : Nat} (hB : n₀ ≤ B) : OwnFrom B (StopE w n₀ c d most val cd) := by
  rintro ys W W' row ⟨h0, pre, x, h1, h2, h3⟩ hg hr
  exact ⟨h0, pre, x, h1, GotE.own hB pre W W' row h2 hg hr, h3⟩
/-- The frame of a round. -/
def AxE (tm : Array Value) (x : Told) (a' : Act) (W : World) : Prop :=
  ∃ Bx, W.heap[Bx]? = some (.cells #[.int .u64 x.1, .int .u64 x.2.1] 41 (0, 0)) ∧ a' = { tmps := (((tm.setIfInBounds 21 (.agg #[.int .u64 x.1, .int .u64 x.2.1])).setIfInBounds 22 (vC x.2.2)).setIfInBounds 10 (.pointer (some ⟨Bx, 0, none⟩))).setIfInBounds 11 (vC x.2.2), defers := [] }
theorem AxE.own (tm : Array Value) (x : Told) (a' : Act) (B : Nat) : OwnFrom B (fun (_ : Unit) W => AxE tm x a' W) := by
  rintro _ W W' row ⟨Bx, h1, h2⟩ hg hr
  exact ⟨Bx, grown_keep hg (fun r e => (hr r e).2) h1, h2⟩
set_option maxHeartbeats 3200000 in
set_option maxRecDepth 100000 in
theorem stmRange {w : World} {s p : Nat} {G : Nat → Prop} {T : Option RT} {n ms q : Nat} (h : StmF w s p G T n ms q) {Q : Nat → Prop} {E : List Ent} (hE : Rows2 w Q (toldL T (idBytes 0 0)) E) (hnodes : nodesO T ≤ 1000000) {a b c d : Nat} (ha : a < 18446744073709551616) (hb : b < 18446744073709551616) {most : Int} :
    Calls Tryz.prog 6 #[ptrV s, .agg #[.int .u64 a, .int .u64 b], .agg #[.int .u64 c, .int .u64 d], .int .i64 most] w fun e w' => ∃ v, e = .returned v ∧ EntsOut w' w.heap.size v (((E.filter fun e => !lessN e.1 (a, b)).takeWhile fun e => !lessN (c, d) e.1).take most.toNat) ∧ Below w.heap.size w w' := by
  obtain ⟨w1, hw1⟩ : ∃ w1, w1 = (((w.alloc (.cells #[.int .u64 a, .int .u64 b] 41)).alloc (.cells #[.int .u64 c, .int .u64 d] 41)).alloc (.cells #[.int .i64 most] 3)).alloc (.cells #[.slice none 0 0] 37) := ⟨_, rfl⟩
  have hs1 : w1.heap.size = w.heap.size + 4 := by rw [hw1]; simp
  have hb1 : Below w.heap.size w w1 := by rw [hw1]; exact ((((Below.refl _ _).alloc (Nat.le_refl _) _).alloc (by simp) _).alloc (by simp; omega) _).alloc (by simp; omega) _
  have k5 : w1.heap[w.heap.size]? = some (.cells #[.int .u64 a, .int .u64 b] 41 (0, 0)) := by rw [hw1]; exact heap_old (heap_old (heap_old (heap_new _ _) _) _) _
  have k6 : w1.heap[w.heap.size + 1]? = some (.cells #[.int .u64 c, .int .u64 d] 41 (0, 0)) := by
    rw [hw1]
    have := heap_new (w.alloc (.cells #[.int .u64 a, .int .u64 b] 41)) (.cells #[.int .u64 c, .int .u64 d] 41)
    rw [World.size_alloc] at this
    exact heap_old (heap_old this _) _
  have k7 : w1.heap[w.heap.size + 1 + 1]? = some (.cells #[.int .i64 most] 3 (0, 0)) := by
    rw [hw1]
    have := heap_new ((w.alloc (.cells #[.int .u64 a, .int .u64 b] 41)).alloc (.cells #[.int .u64 c, .int .u64 d] 41)) (.cells #[.int .i64 most] 3)
    rw [World.size_alloc, World.size_alloc] at this
    exact heap_old this _
  have k9 : w1.heap[w.heap.size + 1 + 1 + 1]? = some (.cells #[.slice none 0 0] 37 (0, 0)) := by
    rw [hw1]
    have := heap_new (((w.alloc (.cells #[.int .u64 a, .int .u64 b] 41)).alloc (.cells #[.int .u64 c, .int .u64 d] 41)).alloc (.cells #[.int .i64 most] 3)) (.cells #[.slice none 0 0] 37)
    rw [World.size_alloc, World.size_alloc, World.size_alloc] at this
    exact this
  have h1 := h.below hb1
  have HT := Lib.hid (stmThere h1)
  obtain ⟨w3, hw3⟩ : ∃ w3, w3 = ((w1.drewN 1).alloc (.cells #[.pointer (some ⟨p, 0, none⟩)] 61)).alloc (.cells #[.int .u64 a, .int .u64 b] 41) := ⟨_, rfl⟩
  have hb13 : Below w1.heap.size w1 w3 := by rw [hw3]; exact ((belowN (Below.refl _ _) 1).alloc (Nat.le_refl _) _).alloc (by simp) _
  have hb3 : Below w.heap.size w w3 := hb1.trans (hb13.mono hb1.size)
  have hs3 : w3.heap.size = w.heap.size + 6 := by rw [hw3]; simp [hs1]
  have hbt3 : w3.cell? ⟨w1.heap.size, 0, none⟩ = some (.pointer (some ⟨p, 0, none⟩)) := by rw [hw3]; exact cell_in (heap_old (heap_new _ _) _) rfl
  have hbi3 : w3.heap[w1.heap.size + 1]? = some (.cells #[.int .u64 a, .int .u64 b] 41 (0, 0)) := by
    rw [hw3]
    have := heap_new ((w1.drewN 1).alloc (.cells #[.pointer (some ⟨p, 0, none⟩)] 61)) (.cells #[.int .u64 a, .int .u64 b] 41)
    rw [World.size_alloc] at this
    exact this
  have HF := Lib.hid (show Calls Tryz.prog 19 #[.pointer (some ⟨p, 0, none⟩), .agg #[.int .u64 a, .int .u64 b]] (w1.drewN 1) fun e w' => e = .returned (.func (.func 62) #[] #[.pointer (some ⟨w1.heap.size, 0, none⟩), .pointer (some ⟨w1.heap.size + 1, 0, none⟩)]) ∧ w' = w3 by rw [hw3]; exact radFrom (w1.drewN 1) p a b)
  have HSeq := Lib.hid (radStopsM (h.tree.below hb3) ha hb hbt3 hbi3 hnodes 2)
  obtain ⟨Tl, hTl⟩ : ∃ Tl, toldL T (idBytes a b) = Tl := ⟨_, rfl⟩
  rw [hTl] at HSeq
  have hTl2 : Tl = (toldL T (idBytes 0 0)).filter fun x => !lessN (idT2 x) (a, b) := by rw [← hTl]; exact told_from h.tree.wf ha hb
  have hEl : (E.filter fun e => !lessN e.1 (a, b)) = Tl.map (entOf w) := by
    rw [hTl2]
    exact (Rows2.filter (p := fun e => !lessN e.1 (a, b)) hE).ents
  have HEl := Lib.hid hEl
  have HRow := Lib.hid (show ∀ x ∈ Tl, PairRow w x.2.2.1 x.2.2.2.1 x.2.2.2.2 (entOf w x).2 ∧ 0 < x.2.2.2.1 ∧ x.2.2.2.1 ≤ 4000000000000 from fun x hx => by
    rw [hTl2] at hx
    obtain ⟨e, _, hr⟩ := hE.mem x (List.mem_filter.1 hx).1
    rw [hr.ent]
    exact ⟨hr.2.1, hr.2.2.1⟩)
  have hN : Tl.length ≤ 1000000 := by
    have h1 := List.length_filter_le (fun p : List UInt8 × VT => !decide (p.1 < idBytes a b)) (itemsO T)
    have h2 := (nodesO_le h.tree.wf).2.1
    rw [← hTl]
    unfold toldL fromL
    rw [List.length_map]
    omega
  have HN := Lib.hid hN
  have HC := Lib.hid (show ∀ w', Below w1.heap.size w1 w' → w'.cell? ⟨s, 0, none⟩ = some (ptrV p) ∧ w'.cell? ⟨w.heap.size, 0, none⟩ = some (.int .u64 a) ∧ w'.cell? ⟨w.heap.size, 1, none⟩ = some (.int .u64 b) from fun w' hb => by
    have e1 := (hb.block _ (heap_lt h1.head)).trans h1.head
    have e2 := (hb.block _ (heap_lt k5)).trans k5
    exact ⟨cell_in e1 rfl, cell_in e2 rfl, cell_in e2 rfl⟩)
  have HW1 := Lib.hid hw1
  have HS1 := Lib.hid hs1
  have HS3 := Lib.hid hs3
  have HB3 := Lib.hid hb3
  have HK := Lib.hid (And.intro ((hb13.block _ (heap_lt k6)).trans k6) (And.intro ((hb13.block _ (heap_lt k7)).trans k7) ((hb13.block _ (heap_lt k9)).trans k9)))
  have HG0 := Lib.hid (show GotE w w.heap.size c d most (fun x : { x // x ∈ Tl } => x.1) [] w3 from
    ⟨hb3, by omega, ⟨(hb13.block _ (heap_lt k6)).trans k6, (hb13.block _ (heap_lt k7)).trans k7⟩, ⟨_, (hb13.block _ (heap_lt k9)).trans k9, EntsOut.nil _ _⟩, fun i h => absurd h (by simp)⟩)
  obtain ⟨tm, htm⟩ : ∃ tm : Array Value, tm = #[.pointer (some ⟨s, 0, none⟩), .agg #[.int .u64 a, .int .u64 b], .agg #[.int .u64 c, .int .u64 d], .int .i64 most, undef, .pointer (some ⟨w.heap.size, 0, none⟩), .pointer (some ⟨w.heap.size + 1, 0, none⟩), .pointer (some ⟨w.heap.size + 1 + 1, 0, none⟩), .slice none 0 0, .pointer (some ⟨w.heap.size + 1 + 1 + 1, 0, none⟩), undef, undef, .pointer (some ⟨s, 0, none⟩), .bool true, .bool false, .pointer (some ⟨s, 0, none⟩), .pointer (some ⟨s, 0, none⟩), .pointer (some ⟨s, 0, none⟩), .pointer (some ⟨p, 0, none⟩), .agg #[.int .u64 a, .int .u64 b], .func (.func 62) #[] #[.pointer (some ⟨w1.heap.size, 0, none⟩), .pointer (some ⟨w1.heap.size + 1, 0, none⟩)], undef, undef, undef, undef, undef, undef, undef, undef, undef, undef, undef, undef, undef, undef, undef, undef, undef, undef, undef] := ⟨_, rfl⟩
  have HTm := Lib.hid htm
  have c0 := HC.out w1.drew (belowN (Below.refl _ _) 1)
  obtain ⟨X1, f, hX1, hf, hF⟩ := classOf (fun w' => w'.cell? ⟨s, 0, none⟩ = some (ptrV p) ∧ w'.cell? ⟨w.heap.size, 0, none⟩ = some (.int .u64 a) ∧ w'.cell? ⟨w.heap.size, 1, none⟩ = some (.int .u64 b)) (w := w1.drew) c0
  have f1 := fun x => (hf x).1
  have f2 := fun x => (hf x).2.1
  have f3 := fun x => (hf x).2.2
  have HFa := Lib.hid (hF w1.drew c0)
  clear htm hF hf h h1 hE hnodes hw1 hs1 hb1 k5 k6 k7 k9 hw3 hb13 hb3 hs3 hbt3 hbi3 c0 hTl hTl2 hEl hN
  unfold ptrV at *
  refine callsIn_wide.1 (callsIn_of_wp_marks (n := 3) Tryz.func6 rfl trivial ?_ rfl)
  refine wpIn_wide.2 ?_
  simp only [Tryz.ntmps6, List.size_toArray, List.length_cons, List.length_nil, Nat.reduceAdd, Nat.reduceSub, Array.replicate_succ, Array.replicate_zero, List.push_toArray, List.append_toArray, List.nil_append, List.cons_append]
  go_wp2_with fail
  rw [← HW1.out]
  refine HT.out.mono ?_
  rintro e w' ⟨rfl, hww⟩
  rw [hww]
  clear hww w'
  go_upto_region 4 with (fail)
  refine wp_region_text ⟨[5], [], 5⟩ (fun w' => ∃ x : X1, w' = f x) (by kernel_rfl) (by kernel_rfl) HFa.out ?_
  refine wpC_seg false (HFa.out) 5 0 _ _ (by rfl) (by rfl) ?_
  simp only [List.take_succ_cons, List.take_zero, List.drop_succ_cons, List.drop_zero, Bool.false_eq_true, if_false, Nat.zero_add, Nat.reduceAdd]
  repeat (go_big_quiet_step (fail))
  refine wpQuiet_nil ?_
  refine wpC_loud (by rfl) (by rfl) fun K hK => ?_
  go_wp2_with fail
  refine HF.out.mono ?_
  rintro e w3' ⟨rfl, hww⟩
  rw [hww]
  refine hK _ _ (fun h => absurd h (by decide)) ?_
  clear hK hww w3' HF
  refine wpC_nil ?_
  clear f1 f2 f3 hX1 HFa f
  go_wp2_with fail
  refine (wpIn_wide (n := 3)).1 ?_
  refine wpIn_rangeFunc_ownH (α := { x // x ∈ Tl }) (F := Fence.wide) rfl (by omega) (gf := 62) (lb := #[.pointer (some ⟨w1.heap.size, 0, none⟩), .pointer (some ⟨w1.heap.size + 1, 0, none⟩)]) rfl trivial (fun args w => rfl) HSeq.out KeepE.trans (fun W l o o' _ hl ho _ => KeepE.putObj W l o o' hl ho) (Below.refl _ _) (fun _ => rfl)
    (GotE w w.heap.size c d most (fun x : { x // x ∈ Tl } => x.1)) (StopE w w.heap.size c d most (fun x : { x // x ∈ Tl } => x.1)) (GotE.own (by have := HS3.out; omega)) (fun _ => StopE.own (by have := HS3.out; omega)) HG0.out (fun x => AxE tm x.1) (fun x a' => AxE.own tm x.1 a' _) ?assign ?body ?done ?stop
  case stop =>
    rintro D cd ys W hD hp ⟨rfl, pre, x, rfl, hI, hs⟩ hK
    have hres : pre.map (fun x : { x // x ∈ Tl } => entOf w x.1) = ((E.filter fun e => !lessN e.1 (a, b)).takeWhile fun e => !lessN (c, d) e.1).take most.toNat := by
      obtain ⟨rest, hrest⟩ := hp
      have hT : Tl.map (entOf w) = (pre.map fun x : { x // x ∈ Tl } => entOf w x.1) ++ entOf w x.1 :: rest.map (entOf w) := by
        have := congrArg (List.map (entOf w)) hrest
        rw [← this]
        simp [List.map_append, Function.comp_def]
      rw [HEl.out, hT]
      have h1 := take_pre (p := fun e : Ent => !lessN (c, d) e.1) (m := most) (rest.map (entOf w)) (entOf w x.1) (pre.map (fun x : { x // x ∈ Tl } => entOf w x.1)) 0 (fun i hi => by
        have := hI.2.2.2.2 i (by simpa using hi)
        simp only [Nat.zero_add, List.getElem_map]
        exact this) (by rw [Nat.zero_add, List.length_map]; exact hs)
      rw [Nat.sub_zero] at h1
      exact h1.symm
    have HR := Lib.hid hres
    obtain ⟨i1, i2, i3, ⟨v, i4, i5⟩, i6⟩ := hI
    have l0 := cell_in i4 (i := 0) rfl
    have HI := Lib.hid (And.intro i1 (And.intro i2 i5))
    clear i1 i2 i3 i4 i5 i6 hs hp hres
    refine wpIn_exit ?_
    go_wp2_with fail
    refine ⟨by simp, .inl ⟨_, _, rfl, run_takeDeferred hK, ?_⟩⟩
    refine ⟨_, results_tmp rfl _ _ _, ?_⟩
    obtain ⟨i1, i2, i5⟩ := HI.out
    have hg := grownBy_putObj' W D (.deferred none)
    have hr : ∀ r, some D = some r → ∃ o : Obj, W.heap[r]? = some o ∧ o.isCells = false := fun r e => by cases e; exact ⟨_, hK, rfl⟩
    refine ⟨_, rfl, ?_, grown_below i1 hg (fun r e => by cases e; have := HS3.out; omega) (Nat.le_refl _) (by omega)⟩
    rw [← HR.out]
    exact (i5.grown hg hr).mono (by omega)
  case assign =>
    intro l pre x W K hI hK
    have HI := Lib.hid hI
    unfold encs
    clear hI
    gi_wp2
    refine hK _ _ ((KeepsOthers.alloc _ _).from _) ?_ ?_ ⟨W.heap.size, heap_new _ _, ?_⟩
    · exact KeepE.chg (S := fun _ => False) (Chg.alloc _ _ _) fun _ _ _ h => h.elim
    · exact (GotE.own (Nat.le_refl _)).alloc _ HI.out
    · rw [HTm.out]; rfl
  case body =>
    rintro l pre ⟨⟨xm, xq, av, nv, cv⟩, hx⟩ a' W _ _ hI ⟨Bx, hBx, rfl⟩ hlen
    have HI := Lib.hid hI
    obtain ⟨i1, i2, ⟨i3, i3'⟩, ⟨v, i4, i5⟩, i6⟩ := hI
    obtain ⟨ao, co, rfl, hco, hcm⟩ := i5.form
    rw [List.length_map] at i4 hco i5
    dsimp only at hBx
    have x0 := cell_in hBx (i := 0) rfl
    have x1 := cell_in hBx (i := 1) rfl
    have l0 := cell_in i4 (i := 0) rfl
    have l1 := cell_in i3' (i := 0) rfl
    have l2 := cell_in i3 (i := 0) rfl
    have l3 := cell_in i3 (i := 1) rfl
    have hN := HN.out
    have hrow := HRow.out _ hx
    obtain ⟨L, hL⟩ : ∃ L, (entOf w (xm, xq, av, nv, cv)).2 = L := ⟨_, rfl⟩
    rw [hL] at hrow
    dsimp only at hrow
    have hent : entOf w (xm, xq, av, nv, cv) = ((xm, xq), L) := by rw [← hL]; rfl
    have HBl := Lib.hid (fun w' => stmBelow c d xm xq w')
    have HI5 := Lib.hid (And.intro i1 (And.intro i2 (And.intro i5 (And.intro i4 (And.intro hBx (And.intro hco hcm))))))
    have HRw := Lib.hid (And.intro hrow hent)
    have HLen := Lib.hid hlen
    have HStop := Lib.hid (show ∀ W', Below W.heap.size W W' → (most ≤ (pre.length : Int) ∨ lessN (c, d) (xm, xq) = true) → ownPostG w3.heap.size KeepE (GotE w w.heap.size c d most (fun x : { x // x ∈ Tl } => x.1)) (StopE w w.heap.size c d most (fun x : { x // x ∈ Tl } => x.1)) (pre ++ [⟨(xm, xq, av, nv, cv), hx⟩]) W (.exit 0) { tmps := #[], defers := [] } W' from fun W' hb hs => by
      refine ⟨keepsFrom_of (S := fun _ => False) _ (Chg.of_below _ hb) fun k hk => hk.elim, rfl, pre, ⟨(xm, xq, av, nv, cv), hx⟩, rfl, ?_, hs.imp id fun h => by rw [show idT2 (xm, xq, av, nv, cv) = (xm, xq) from rfl, h]; rfl⟩
      exact GotE.own (Nat.le_refl _) pre W W' none HI.out (grown_of hb) fun r e => by cases e)
    obtain ⟨y, hy⟩ : ∃ y, lessN (c, d) (xm, xq) = y := ⟨_, rfl⟩
    rw [hy] at HBl
    rw [HTm.out]
    clear i1 i2 i3 i3' i4 i5 i6 hBx hrow hL hent hlen hN hco hcm
    simp only [List.setIfInBounds_toArray, List.set_cons_succ, List.set_cons_zero, vC]
    by_cases hm : most ≤ (pre.length : Int)
    · have e1 : decide (most ≤ (pre.length : Int)) = true := decide_eq_true hm
      have HSt := Lib.hid (HStop.out W (Below.refl _ _) (.inl hm))
      clear hm hy
      gi_wp2_with fail
      refine ⟨trivial, ?_⟩
      gi_wp2_with fail
      exact HSt.out
    · have e1 : decide (most ≤ (pre.length : Int)) = false := decide_eq_false hm
      have HM := Lib.hid (And.intro hm hy)
      clear hm hy
      gi_wp2_with fail
      refine ⟨trivial, (callsIn_round (HBl.out W)).mono ?_⟩
      rintro e W2 ⟨rfl, b2⟩
      have HB2 := Lib.hid b2
      clear b2 x0 x1 l0 l1 l2 l3
      cases y
      case' true =>
        have HSt := Lib.hid (HStop.out W2 HB2.out (.inr HM.out.2))
        gi_wp2_with fail
        exact HSt.out
      case' false =>
        have hbb : Below w.heap.size w (W2.drewN 1) := HI5.out.1.trans ((belowN HB2.out 1).mono (by have := HI5.out.2.1; omega))
        have hWsz := HB2.out.size
        have h4 := (HB2.out.block _ (heap_lt HI5.out.2.2.2.1)).trans HI5.out.2.2.2.1
        have hBx2 := (HB2.out.block _ (heap_lt HI5.out.2.2.2.2.1)).trans HI5.out.2.2.2.2.1
        have hrow2 := HRw.out.1.1.below hbb
        have HCl := Lib.hid (clone_whole hrow2 HRw.out.1.2.1 HRw.out.1.2.2)
        have HC2 := Lib.hid (show ∀ w', Below W2.heap.size W2 w' → w'.cell? ⟨w.heap.size + 1 + 1 + 1, 0, none⟩ = some (.slice ao pre.length co) ∧ w'.cell? ⟨Bx, 0, none⟩ = some (.int .u64 xm) ∧ w'.cell? ⟨Bx, 1, none⟩ = some (.int .u64 xq) from fun w' hb => by
          have e1 := (hb.block _ (heap_lt h4)).trans h4
          have e2 := (hb.block _ (heap_lt hBx2)).trans hBx2
          exact ⟨cell_in e1 rfl, cell_in e2 rfl, cell_in e2 rfl⟩)
        have c0 := HC2.out W2.drew (belowN (Below.refl _ _) 1)
        obtain ⟨X1, f, hX1, hf, hF⟩ := classOf (fun w' => w'.cell? ⟨w.heap.size + 1 + 1 + 1, 0, none⟩ = some (.slice ao pre.length co) ∧ w'.cell? ⟨Bx, 0, none⟩ = some (.int .u64 xm) ∧ w'.cell? ⟨Bx, 1, none⟩ = some (.int .u64 xq)) (w := W2.drew) c0
        have f1 := fun x => (hf x).1
        have f2 := fun x => (hf x).2.1
        have f3 := fun x => (hf x).2.2
        have HF1 := Lib.hid hF
        have HFa := Lib.hid (hF W2.drew c0)
        have HH4 := Lib.hid (And.intro h4 hbb)
        clear hF hf hbb hWsz h4 hBx2 hrow2 c0
        gi_upto_region 8 with (fail)
        refine wpIn_region_text ⟨[3, 5, 6, 7], [4], 6⟩ (fun w' => ∃ x : X1, w' = f x) (by kernel_rfl) (by kernel_rfl) (by kernel_rfl) HFa.out ?_
        refine wpC_seg false (HFa.out) 3 0 _ _ (by rfl) (by rfl) ?_
        simp only [List.take_succ_cons, List.take_zero, List.drop_succ_cons, List.drop_zero, Bool.false_eq_true, if_false, Nat.zero_add, Nat.reduceAdd]
        repeat (go_big_quiet_step (fail))
        refine wpQuiet_nil ?_
        refine wpC_loud (by rfl) (by rfl) fun K hK => ?_
        go_wp2_with fail
        refine HCl.out.mono ?_
        rintro e W3 ⟨b, c', rfl, hpr, hbge, b3, hwh⟩
        have HB3' := Lib.hid ((belowN (Below.refl W2.heap.size W2) 1).trans b3)
        have HF3 := Lib.hid (HF1.out W3 (HC2.out W3 HB3'.out))
        have HPr := Lib.hid (And.intro hpr hbge)
        have HWh := Lib.hid hwh
        refine hK _ _ (fun _ => HF3.out) ?_
        clear hK hpr hbge b3 hwh HCl
        refine wpC_seg true (HF3.out) 1 4 _ _ (by rfl) (by rfl) ?_
        simp only [List.take_succ_cons, List.take_zero, List.drop_succ_cons, List.drop_zero, if_true, Nat.zero_add, Nat.reduceAdd]
        repeat (go_big_quiet_step (fail))
        refine wpQuiet_nil ?_
        refine wpC_loud (by rfl) (by rfl) fun K hK => ?_
        go_wp2_with fail
        obtain ⟨W4, hW4⟩ : ∃ W4, W4 = W3.alloc (.cells #[.int .u64 xm, .int .u64 xq, .slice (some ⟨b, 0, none⟩) nv c'] 50) := ⟨_, rfl⟩
        rw [← hW4]
        have hb24 : Below W2.heap.size W2 W4 := by rw [hW4]; exact HB3'.out.alloc HB3'.out.size _
        have HF4 := Lib.hid (HF1.out W4 (HC2.out W4 hb24))
        have hW03 : Below W.heap.size W W3 := HB2.out.trans (HB3'.out.mono HB2.out.size)
        have hxr : RowIs W3 (fun k => W.heap.size ≤ k) (xm, xq, some ⟨b, 0, none⟩, nv, c') ((xm, xq), L) :=
          ⟨rfl, HPr.out.1, HRw.out.1.2, b, rfl, Nat.le_trans HB2.out.size HPr.out.2⟩
        obtain ⟨v', W5, hr, o5, c5, hv5⟩ := HI5.out.2.2.1.append hW03 (by have := HI5.out.2.1; omega) hxr ⟨_, HWh.out.mono HB2.out.size⟩ (by rw [List.length_map]; have := HLen.out; have := HN.out; omega)
        obtain ⟨ax, ln, cx, rfl⟩ : ∃ ax ln cx, v' = .slice ax ln cx := by obtain ⟨ax, cx, e, _⟩ := o5.form; exact ⟨_, _, _, e⟩
        have hr' : (Builtin.append_ #[37, 37] 37 #[.slice ao pre.length co, .slice (some ⟨W3.heap.size, 0, none⟩) 1 1]).run Tryz.prog W4 = .ok (.slice ax ln cx) W5 := by rw [hW4]; exact hr
        have HR := Lib.hid hr'
        have hne : ∀ k, vblock (.slice ao pre.length co) = some k → k ≠ w.heap.size + 1 + 1 + 1 := fun k hk => by have := (HI5.out.2.2.1.vb hk).1; omega
        have h43 := (hW03.block _ (heap_lt HI5.out.2.2.2.1)).trans HI5.out.2.2.2.1
        have h45 := c5.keep h43 fun hk => hne _ hk rfl
        have q0 := cell_in h45 (i := 0) rfl
        have q1 := frozen_in h45 0
        obtain ⟨W6, hW6⟩ : ∃ W6, W6 = W5.setCell ⟨w.heap.size + 1 + 1 + 1, 0, none⟩ (.slice ax ln cx) := ⟨_, rfl⟩
        have h46 : W6.heap[w.heap.size + 1 + 1 + 1]? = some (.cells #[.slice ax ln cx] 37 (0, 0)) := by rw [hW6]; exact setCell_head h45 0 _
        have c56 : Chg (fun k => k = w.heap.size + 1 + 1 + 1) W5 W6 := by rw [hW6]; exact Chg.setCell _ _ _ _ rfl
        have cAll : Chg (fun k => vblock (.slice ao pre.length co) = some k ∨ k = w.heap.size + 1 + 1 + 1) W W6 := (((Chg.of_below _ hW03).trans c5 fun k hk _ => hk).mono fun k hk _ => .inl hk).trans c56 fun k hk _ => .inr hk
        have HFin := Lib.hid (show ownPostG w3.heap.size KeepE (GotE w w.heap.size c d most (fun x : { x // x ∈ Tl } => x.1)) (StopE w w.heap.size c d most (fun x : { x // x ∈ Tl } => x.1)) (pre ++ [⟨(xm, xq, av, nv, cv), hx⟩]) W .normal { tmps := #[], defers := [] } W6 from by
          have hI := HI.out
          refine ⟨keepsFrom_of _ cAll fun k hk o ho => ?_, KeepE.chg cAll fun k cs fz hk he => ?_, belowChg HI5.out.1 cAll (by have := HI5.out.2.1; omega) fun k hk _ => ?_, Nat.le_trans HI5.out.2.1 cAll.size, ⟨cAll.keep hI.2.2.1.1 ?_, cAll.keep hI.2.2.1.2 ?_⟩, ⟨_, h46, ?_⟩, fun i hi => ?_⟩
          · rcases hk with hk | rfl
            · obtain ⟨_, _, cur, fz, hh⟩ := HI5.out.2.2.1.vb hk
              rw [hh] at ho; cases ho; rfl
            · rw [HI5.out.2.2.2.1] at ho; cases ho; rfl
          · rcases hk with hk | rfl
            · obtain ⟨_, _, cur, fz', hh⟩ := HI5.out.2.2.1.vb hk
              rw [hh] at he; cases he
            · rw [HI5.out.2.2.2.1] at he; cases he
          · rcases hk with hk | rfl
            · have := (HI5.out.2.2.1.vb hk).1; omega
            · omega
          · rintro (hk | hk)
            · have := (HI5.out.2.2.1.vb hk).1; omega
            · omega
          · rintro (hk | hk)
            · have := (HI5.out.2.2.1.vb hk).1; omega
            · omega
          · have := o5.chg c56 fun k hk e => by omega
            rw [List.map_append]
            simp only [List.map_cons, List.map_nil]
            rw [HRw.out.2]
            exact this
          · rw [List.length_append, List.length_singleton] at hi
            rcases Nat.lt_or_ge i pre.length with h' | h'
            · rw [List.getElem_append_left h']
              exact hI.2.2.2.2 i h'
            · obtain rfl : i = pre.length := by omega
              have hmm := HM.out.1
              have hmy := HM.out.2
              simp only [List.getElem_append_right (Nat.le_refl _), Nat.sub_self, List.getElem_singleton]
              refine ⟨by omega, ?_⟩
              show (!lessN (c, d) (xm, xq)) = true
              rw [hmy]; rfl)
        have HW6 := Lib.hid hW6
        refine hK _ _ (fun _ => HF4.out) ?_
        clear hK hW4 hb24 hW03 hxr hr o5 c5 hv5 hr' hne h43 h45 hW6 h46 c56 cAll
        refine wpC_value (by rfl) (by rfl) (exec_append rfl HR.out) (fun h => absurd h (by decide)) ?_
        simp only [Act.put, List.setIfInBounds_toArray, List.set_cons_succ, List.set_cons_zero]
        clear f1 f2 f3 HF1 HFa HF3 HF4
        refine wpC_loud (by rfl) (by rfl) fun K hK => ?_
        go_wp2_with fail
        rw [← HW6.out]
        refine hK _ _ (fun h => absurd h (by decide)) ?_
        clear hK
        refine wpC_nil ?_
        exact HFin.out
  case done =>
    rintro D xs W hD hxs hI hK
    have hres : xs.map (fun x : { x // x ∈ Tl } => entOf w x.1) = ((E.filter fun e => !lessN e.1 (a, b)).takeWhile fun e => !lessN (c, d) e.1).take most.toNat := by
      have hT : Tl.map (entOf w) = xs.map fun x : { x // x ∈ Tl } => entOf w x.1 := by
        have := congrArg (List.map (entOf w)) hxs
        rw [← this]
        simp [Function.comp_def]
      rw [HEl.out, hT]
      have h1 := take_all (p := fun e : Ent => !lessN (c, d) e.1) (m := most) (xs.map (fun x : { x // x ∈ Tl } => entOf w x.1)) 0 (fun i hi => by
        have := hI.2.2.2.2 i (by simpa using hi)
        simp only [Nat.zero_add, List.getElem_map]
        exact this)
      rw [Nat.sub_zero] at h1
      exact h1.symm
    have HR := Lib.hid hres
    obtain ⟨i1, i2, i3, ⟨v, i4, i5⟩, i6⟩ := hI
    have l0 := cell_in i4 (i := 0) rfl
    have HI := Lib.hid (And.intro i1 (And.intro i2 i5))
    clear i1 i2 i3 i4 i5 i6 hres hxs
    go_wp2_with fail
    refine ⟨by simp, .inl ⟨_, _, rfl, run_takeDeferred hK, ?_⟩⟩
    refine ⟨_, results_tmp rfl _ _ _, ?_⟩
    obtain ⟨i1, i2, i5⟩ := HI.out
    have hg := grownBy_putObj' W D (.deferred none)
    have hr : ∀ r, some D = some r → ∃ o : Obj, W.heap[r]? = some o ∧ o.isCells = false := fun r e => by cases e; exact ⟨_, hK, rfl⟩
    refine ⟨_, rfl, ?_, grown_below i1 hg (fun r e => by cases e; have := HS3.out; omega) (Nat.le_refl _) (by omega)⟩
    rw [← HR.out]
    exact (i5.grown hg hr).mono (by omega)
end Go.Proofs.YtmaemgihhipllaaGreatDoor.Sad

/- a stream as an object with its blocks: E its entries, l its last identifier. -/
namespace Go.Proofs.YtmaemgihhipllaaGreatDoor.Sad
open Go.Proofs.YtmaemgihhipllaaGreatDoor
set_option linter.unusedVariables false
set_option linter.unusedSimpArgs false
open Go.RowKit RT Go.Shelf
structure StmO (w : World) (s p : Nat) (G R : Nat → Prop) (T : Option RT) (E : List Ent) (l : Nat × Nat) : Prop where
  core : StmF w s p G T E.length l.1 l.2
  rows : Rows2 w R (toldL T (idBytes 0 0)) E
  apart : ∀ b, R b → ¬ G b ∧ b ≠ s
  rlt : ∀ b, R b → b < w.heap.size
  top : ∀ e ∈ E, lessN l e.1 = false
/-- Stream s, in blocks of F. -/
def Stm (w : World) (s : Nat) (F : Nat → Prop) (E : List Ent) (l : Nat × Nat) : Prop :=
  ∃ p G R T, StmO w s p G R T E l ∧ ∀ k, F k ↔ k = s ∨ G k ∨ R k
section
variable {w w' : World} {s p : Nat} {G R F : Nat → Prop} {T : Option RT} {E : List Ent} {l : Nat × Nat}
theorem StmF.chg {n ms q : Nat} (h : StmF w s p G T n ms q) {S : Nat → Prop} (hc : Chg S w w') (hs : ¬ S s) (hG : ∀ k, G k → ¬ S k) : StmF w' s p G T n ms q :=
  ⟨hc.keep h.head hs, h.tree.chg hc hG, h.own, h.ms_lt, h.q_lt⟩
theorem Stm.lt (h : Stm w s F E l) : ∀ k, F k → k < w.heap.size := by
  obtain ⟨p, G, R, T, h, hF⟩ := h
  intro k hk
  rcases (hF k).1 hk with rfl | hk | hk
  · exact heap_lt h.core.head
  · exact h.core.tree.1 k hk
  · exact h.rlt k hk
theorem Stm.chg (h : Stm w s F E l) {S : Nat → Prop} (hc : Chg S w w') (hs : ∀ k, F k → ¬ S k) : Stm w' s F E l := by
  obtain ⟨p, G, R, T, h, hF⟩ := h
  exact ⟨p, G, R, T, ⟨StmF.chg h.core hc (hs s ((hF s).2 (.inl rfl))) fun k hk => hs k ((hF k).2 (.inr (.inl hk))), Rows2.chg hc (fun b hb => hs b ((hF b).2 (.inr (.inr hb)))) h.rows, h.apart, fun b hb => Nat.lt_of_lt_of_le (h.rlt b hb) hc.size, h.top⟩, hF⟩
theorem Stm.below (h : Stm w s F E l) (hb : Below w.heap.size w w') : Stm w' s F E l := h.chg (Chg.of_below (fun _ => False) hb) fun _ _ => id
theorem StmO.ids (h : StmO w s p G R T E l) : (toldL T (idBytes 0 0)).map idT2 = E.map (·.1) := by
  have := h.rows.ents
  conv => rhs; rw [this]
  rw [List.map_map]
  rfl
theorem Stm.rise (h : Stm w s F E l) : E.Pairwise fun x y => lessN x.1 y.1 = true := by
  obtain ⟨p, G, R, T, h, hF⟩ := h
  have h1 := told_rise h.core.tree.wf (idBytes 0 0)
  have h2 : ((toldL T (idBytes 0 0)).map idT2).Pairwise fun x y => lessN x y = true := by rw [List.pairwise_map]; exact h1
  rw [h.ids, List.pairwise_map] at h2
  exact h2
theorem Stm.lt64 (h : Stm w s F E l) : (l.1 < 18446744073709551616 ∧ l.2 < 18446744073709551616) ∧ ∀ e ∈ E, e.1.1 < 18446744073709551616 ∧ e.1.2 < 18446744073709551616 := by
  obtain ⟨p, G, R, T, h, hF⟩ := h
  refine ⟨⟨h.core.ms_lt, h.core.q_lt⟩, fun e he => ?_⟩
  have h1 : e.1 ∈ E.map (·.1) := List.mem_map_of_mem he
  rw [← h.ids] at h1
  obtain ⟨x, hx, hxe⟩ := List.mem_map.1 h1
  have := ((mem_all h.core.tree.wf x).1 hx).1
  rw [← hxe]
  exact this
theorem Stm.top (h : Stm w s F E l) : ∀ e ∈ E, lessN l e.1 = false := by
  obtain ⟨p, G, R, T, h, hF⟩ := h
  exact h.top
theorem StmO.nodes (h : StmO w s p G R T E l) (hn : E.length ≤ 400000) : nodesO T ≤ 1000000 := by
  have h1 := (nodesO_le h.core.tree.wf).1
  have h2 := h.rows.length
  have h3 : (toldL T (idBytes 0 0)).length = (itemsO T).length := by
    unfold toldL
    rw [List.length_map]
    unfold fromL
    rw [List.filter_eq_self.2]
    rintro ⟨k, v⟩ hk
    have := less_ids ((mem_itemsO h.core.tree.wf k v).1 hk).1 (idBytes_length 0 0)
    rw [idOf_id (by omega) (by omega)] at this
    have e : lessN (idOf k) (0, 0) = false := by simp [lessN]
    rw [e] at this
    simpa using this.symm
  omega
end
theorem stm_new (w : World) : Calls Tryz.prog 11 #[] w fun e w' => ∃ s F, e = .returned (ptrV s) ∧ Stm w' s F [] (0, 0) ∧ Below w.heap.size w w' ∧ ∀ k, F k → w.heap.size ≤ k := by
  refine (stmNew w).mono ?_
  rintro e w' ⟨s, p, G, rfl, h1, h2, h3, h4⟩
  refine ⟨s, fun k => k = s ∨ G k ∨ False, rfl, ⟨p, G, fun _ => False, none, ⟨h1, trivial, fun b h => h.elim, fun b h => h.elim, by simp⟩, fun k => Iff.rfl⟩, h2, ?_⟩
  rintro k (rfl | hk | hk)
  · exact h3
  · exact h4 k hk
  · exact hk.elim
theorem stm_len {w : World} {s : Nat} {F : Nat → Prop} {E : List Ent} {l : Nat × Nat} (h : Stm w s F E l) : Calls Tryz.prog 56 #[ptrV s] w fun e w' => e = .returned (.int .i64 E.length) ∧ w' = w := by
  obtain ⟨p, G, R, T, h, hF⟩ := h
  exact stmLen h.core
theorem stm_next {w : World} {s : Nat} {F : Nat → Prop} {E : List Ent} {l : Nat × Nat} (h : Stm w s F E l) {now : Int} (hlo : -9223372036854775808 ≤ now) (hhi : now ≤ 9223372036854775807) :
    Calls Tryz.prog 50 #[ptrV s, .int .i64 now] w fun e w' => e = .returned (.tuple #[.agg #[.int .u64 (nextN l.1 l.2 now).1.1, .int .u64 (nextN l.1 l.2 now).1.2], .bool (nextN l.1 l.2 now).2]) ∧ Below w.heap.size w w' := by
  obtain ⟨p, G, R, T, h, hF⟩ := h
  exact stmNext h.core hlo hhi
theorem stm_range {w : World} {s : Nat} {F : Nat → Prop} {E : List Ent} {l : Nat × Nat} (h : Stm w s F E l) (hn : E.length ≤ 400000) {a b c d : Nat} (ha : a < 18446744073709551616) (hb : b < 18446744073709551616) {most : Int} :
    Calls Tryz.prog 6 #[ptrV s, .agg #[.int .u64 a, .int .u64 b], .agg #[.int .u64 c, .int .u64 d], .int .i64 most] w fun e w' => ∃ v, e = .returned v ∧ EntsOut w' w.heap.size v (((E.filter fun e => !lessN e.1 (a, b)).takeWhile fun e => !lessN (c, d) e.1).take most.toNat) ∧ Below w.heap.size w w' := by
  obtain ⟨p, G, R, T, h, hF⟩ := h
  exact stmRange h.core h.rows (h.nodes hn) ha hb
/-- The entries' cost. -/
def costE (E : List Ent) : Nat := (E.map fun e => 32 + pairsCost e.2).foldl (· + ·) 0
theorem stm_charge {w : World} {s : Nat} {F : Nat → Prop} {E : List Ent} {l : Nat × Nat} (h : Stm w s F E l) (hn : E.length ≤ 400000) {M : Nat} (hM : ∀ e ∈ E, 32 + pairsCost e.2 ≤ M) (hc : E.length * M ≤ 281474976710656) :
    Calls Tryz.prog 52 #[ptrV s] w fun e w' => e = .returned (.int .i64 (costE E : Nat)) ∧ Below w.heap.size w w' := by
  obtain ⟨p, G, R, T, h, hF⟩ := h
  have he := h.rows.ents
  have hcost : costOf (rowOf w) (toldL T (idBytes 0 0)) = costE E := by
    unfold costE costOf
    conv => rhs; rw [he]
    rw [List.map_map]
    rfl
  rw [← hcost]
  refine stmCharge h.core (R := rowOf w) (M := M) (fun x hx => ?_) (fun x hx => ?_) (by rw [h.rows.length]; exact hc) (h.nodes hn)
  · obtain ⟨e, _, hr⟩ := h.rows.mem x hx
    rw [rowOf_eq hr.2.1]
    exact ⟨hr.2.1, by have := hr.2.2.1.2; omega⟩
  · obtain ⟨e, hee, hr⟩ := h.rows.mem x hx
    rw [rowOf_eq hr.2.1]
    exact hM e hee
theorem stm_add_bad {w : World} {s : Nat} {F : Nat → Prop} {E : List Ent} {l : Nat × Nat} (h : Stm w s F E l) {a : Option Addr} {k c : Nat} {L : List PairT} (hp : PairRow w a k c L) (hk : k ≤ 281474976710656) (im iq : Nat)
    (hbad : k = 0 ∨ L.any longP = true ∨ lessN l (im, iq) = false) :
    Calls Tryz.prog 15 #[ptrV s, .agg #[.int .u64 im, .int .u64 iq, .slice a k c]] w fun e w' => e = .returned (.int .i64 1) ∧ Below w.heap.size w w' := by
  obtain ⟨p, G, R, T, h, hF⟩ := h
  exact addBad h.core hp hk im iq hbad
theorem stm_add {w : World} {s : Nat} {F : Nat → Prop} {E : List Ent} {l : Nat × Nat} (h : Stm w s F E l) {a : Option Addr} {k c : Nat} {L : List PairT} (hp : PairRow w a k c L) (hk : k ≤ 4000000000000) {im iq : Nat} (him : im < 18446744073709551616) (hiq : iq < 18446744073709551616)
    (hk0 : 0 < k) (hx : L.any longP = false) (hy : lessN l (im, iq) = true) (hn : E.length < 1048576) :
    Calls Tryz.prog 15 #[ptrV s, .agg #[.int .u64 im, .int .u64 iq, .slice a k c]] w fun e w' => e = .returned (.int .i64 0) ∧ ∃ F', Stm w' s F' (E ++ [((im, iq), L)]) (im, iq) ∧ Fresh w F F' ∧ Chg F w w' := by
  obtain ⟨p, G, R, T, h, hF⟩ := h
  refine (addGood h.core hp hk him hiq hk0 hx hy hn).mono ?_
  rintro e w' ⟨rfl, G', b, c', h1, h2, h3, h4, h5, h6⟩
  have hwf := h.core.tree.wf
  have hlt : ∀ x ∈ toldL T (idBytes 0 0), lessN (idT2 x) (im, iq) = true := fun x hx => by
    have h1 : idT2 x ∈ E.map (·.1) := by rw [← h.ids]; exact List.mem_map_of_mem hx
    obtain ⟨e, he, hee⟩ := List.mem_map.1 h1
    have := h.top e he
    rw [← hee]
    rcases less_total this with h' | h'
    · exact less_trans h' hy
    · rw [← h']; exact hy
  have hno : (lookO T (idBytes im iq)).isNone = true := by
    have := look_some hwf him hiq
    rw [List.any_eq_false.2] at this
    · cases hl : lookO T (idBytes im iq) with
      | none => rfl
      | some v => rw [hl] at this; cases this
    · intro x hx
      simp only [decide_eq_true_eq]
      intro e
      have := hlt x hx
      rw [e, less_irrefl] at this
      cases this
  rw [if_pos hno] at h1
  have hb : b < w'.heap.size := by
    obtain ⟨b', o', e, hlt', _⟩ := h2.cells (i := 0) hk0
    cases e; exact hlt'
  have hslt := heap_lt h.core.head
  refine ⟨rfl, fun j => j = s ∨ G' j ∨ R j ∨ j = b, ⟨p, G', fun j => R j ∨ j = b, _, ⟨by rw [List.length_append]; exact h1, ?_, ?_, ?_, ?_⟩, fun k => Iff.rfl⟩, ?_, h6.mono fun j hj _ => (hF j).2 (by rcases hj with h | h; exact .inr (.inl h); exact .inl h)⟩
  · rw [told_put hwf him hiq _ hlt]
    refine Rows2.append ?_ ⟨⟨rfl, h2, ⟨hk0, hk⟩, b, rfl, .inr rfl⟩, trivial⟩
    exact Rows2.imp (fun j _ hj => .inl hj) (Rows2.chg h6 (fun j hj hS => by rcases hS with hS | hS; exact (h.apart j hj).1 hS; exact (h.apart j hj).2 hS) h.rows)
  · rintro j (hj | rfl)
    · refine ⟨fun hg => ?_, (h.apart j hj).2⟩
      rcases h5 j hg with h' | h'
      · exact (h.apart j hj).1 h'
      · have := h.rlt j hj; omega
    · exact ⟨h4, by omega⟩
  · rintro j (hj | rfl)
    · exact Nat.lt_of_lt_of_le (h.rlt j hj) h6.size
    · exact hb
  · intro e he
    rcases List.mem_append.1 he with he | he
    · have := h.top e he
      rcases less_total this with h' | h'
      · exact less_asymm (less_trans h' hy)
      · rw [← h']; exact less_asymm hy
    · rw [List.mem_singleton.1 he]; exact less_irrefl _
  · rintro j (rfl | hj | hj | rfl)
    · exact .inl ((hF _).2 (.inl rfl))
    · exact (h5 j hj).imp (fun h => (hF _).2 (.inr (.inl h))) id
    · exact .inl ((hF _).2 (.inr (.inr hj)))
    · exact .inr h3
theorem StmO.any {w : World} {s p : Nat} {G R : Nat → Prop} {T : Option RT} {E : List Ent} {l : Nat × Nat} (h : StmO w s p G R T E l) {a b : Nat} (ha : a < 18446744073709551616) (hb : b < 18446744073709551616) : (lookO T (idBytes a b)).isSome = E.any fun e => decide (e.1 = (a, b)) := by
  rw [look_some h.core.tree.wf ha hb]
  have h1 : ((toldL T (idBytes 0 0)).map idT2).any (fun y => decide (y = (a, b))) = (E.map (·.1)).any (fun y => decide (y = (a, b))) := by rw [h.ids]
  rw [List.any_map, List.any_map] at h1
  exact h1
theorem StmO.pos {w : World} {s p : Nat} {G R : Nat → Prop} {T : Option RT} {E : List Ent} {l : Nat × Nat} (h : StmO w s p G R T E l) {a b : Nat} (ha : a < 18446744073709551616) (hb : b < 18446744073709551616) (hl : lookO T (idBytes a b) ≠ none) : 0 < E.length := by
  have h1 : (lookO T (idBytes a b)).isSome = true := by cases hh : lookO T (idBytes a b) with | none => exact absurd hh hl | some v => rfl
  rw [h.any ha hb] at h1
  cases E with
  | nil => simp at h1
  | cons x l => simp
theorem StmO.del {w w' : World} {s p : Nat} {G G' R : Nat → Prop} {T : Option RT} {E : List Ent} {l : Nat × Nat} (h : StmO w s p G R T E l) {a b : Nat} (ha : a < 18446744073709551616) (hb : b < 18446744073709551616)
    (h1 : StmF w' s p G' (if (lookO T (idBytes a b)).isSome then delO T (idBytes a b) else T) (if (lookO T (idBytes a b)).isSome then E.length - 1 else E.length) l.1 l.2) (h2 : Fresh w G G') (h3 : Chg G w w') :
    StmO w' s p G' R (if (lookO T (idBytes a b)).isSome then delO T (idBytes a b) else T) (E.filter fun e => !decide (e.1 = (a, b))) l := by
  have hwf := h.core.tree.wf
  have hany := h.any ha hb
  rw [hany] at h1 ⊢
  refine ⟨?_, ?_, ?_, fun j hj => Nat.lt_of_lt_of_le (h.rlt j hj) h3.size, fun e he => h.top e (List.mem_filter.1 he).1⟩
  · have hlen : (E.filter fun e => !decide (e.1 = (a, b))).length = if (E.any fun e => decide (e.1 = (a, b))) then E.length - 1 else E.length := by
      by_cases hh : (E.any fun e => decide (e.1 = (a, b))) = true
      · rw [if_pos hh]
        have hne : lookO T (idBytes a b) ≠ none := fun e => by rw [← hany, e] at hh; cases hh
        have k1 := h1.tree
        rw [if_pos hh] at k1
        have k2 := told_del hwf ha hb hne
        have k3 := (Rows2.filter (p := fun e => !decide (e.1 = (a, b))) h.rows).length
        have k4 := len_delO hwf (idBytes_length a b) hne
        have k5 : ∀ V : Option RT, WFO V → (toldL V (idBytes 0 0)).length = (itemsO V).length := fun V hV => by
          unfold toldL
          rw [List.length_map]
          unfold fromL
          rw [List.filter_eq_self.2]
          rintro ⟨k, v⟩ hk
          have := less_ids ((mem_itemsO hV k v).1 hk).1 (idBytes_length 0 0)
          rw [idOf_id (by omega) (by omega)] at this
          have e : lessN (idOf k) (0, 0) = false := by simp [lessN]
          rw [e] at this
          simpa using this.symm
        have k6 := k5 T hwf
        have k7 := k5 _ (hwf.delO (idBytes_length a b) hne)
        have k8 := h.rows.length
        rw [k2] at k7
        have k9 : ((toldL T (idBytes 0 0)).filter fun x => !decide (idT2 x = (a, b))).length = (E.filter fun e => !decide (e.1 = (a, b))).length := k3
        omega
      · rw [if_neg hh, List.filter_eq_self.2]
        intro e he
        have hh' : (E.any fun e => decide (e.1 = (a, b))) = false := Bool.eq_false_iff.2 hh
        have := List.any_eq_false.1 hh' e he
        simpa using this
    rw [hlen]
    exact h1
  · have hr : Rows2 w' R (toldL T (idBytes 0 0)) E := Rows2.chg h3 (fun j hj hS => (h.apart j hj).1 hS) h.rows
    by_cases hh : (E.any fun e => decide (e.1 = (a, b))) = true
    · rw [if_pos hh]
      have hne : lookO T (idBytes a b) ≠ none := fun e => by rw [← hany, e] at hh; cases hh
      rw [told_del hwf ha hb hne]
      exact Rows2.filter (p := fun e => !decide (e.1 = (a, b))) hr
    · rw [if_neg hh, List.filter_eq_self.2]
      · exact hr
      · intro e he
        have hh' : (E.any fun e => decide (e.1 = (a, b))) = false := Bool.eq_false_iff.2 hh
        have := List.any_eq_false.1 hh' e he
        simpa using this
  · intro j hj
    refine ⟨fun hg => ?_, (h.apart j hj).2⟩
    rcases h2 j hg with h' | h'
    · exact (h.apart j hj).1 h'
    · have := h.rlt j hj; omega
theorem stm_del {w : World} {s : Nat} {F : Nat → Prop} {E : List Ent} {l : Nat × Nat} (h : Stm w s F E l) (hn : E.length ≤ 400000) {a b : Nat} (ha : a < 18446744073709551616) (hb : b < 18446744073709551616) :
    Calls Tryz.prog 12 #[ptrV s, .agg #[.int .u64 a, .int .u64 b]] w fun e w' => e = .returned (.bool (E.any fun e => decide (e.1 = (a, b)))) ∧ ∃ F', Stm w' s F' (E.filter fun e => !decide (e.1 = (a, b))) l ∧ Fresh w F F' ∧ Chg F w w' := by
  obtain ⟨p, G, R, T, h, hF⟩ := h
  refine (stmDelete h.core ha hb (by omega) (h.pos ha hb)).mono ?_
  rintro e w' ⟨rfl, G', h1, h2, h3⟩
  refine ⟨by rw [h.any ha hb], fun j => j = s ∨ G' j ∨ R j, ⟨p, G', R, _, h.del ha hb h1 h2 h3, fun k => Iff.rfl⟩, ?_, h3.mono fun j hj _ => (hF j).2 (.inr (.inl hj))⟩
  · rintro j (rfl | hj | hj)
    · exact .inl ((hF _).2 (.inl rfl))
    · exact (h2 j hj).imp (fun h => (hF _).2 (.inr (.inl h))) id
    · exact .inl ((hF _).2 (.inr (.inr hj)))
/-- The tree's own Delete. -/
theorem tree_del {w : World} {s p : Nat} {G R : Nat → Prop} {T : Option RT} {E : List Ent} {l : Nat × Nat} (h : StmO w s p G R T E l) (hn : E.length ≤ 400000) {a b : Nat} (ha : a < 18446744073709551616) (hb : b < 18446744073709551616) :
    Calls Tryz.prog 55 #[ptrV p, .agg #[.int .u64 a, .int .u64 b]] w fun e w' => e = .returned (.bool (E.any fun e => decide (e.1 = (a, b)))) ∧ ∃ G' T', StmO w' s p G' R T' (E.filter fun e => !decide (e.1 = (a, b))) l ∧ Fresh w G G' ∧ Chg G w w' := by
  refine (radDelete h.core.tree ha hb (by omega) (h.pos ha hb)).mono ?_
  rintro e w' ⟨rfl, G', h1, h2, h3⟩
  refine ⟨by rw [h.any ha hb], G', _, h.del ha hb ⟨h3.keep h.core.head h.core.own, h1, fun hg => ?_, h.core.ms_lt, h.core.q_lt⟩ h2 h3, h2, h3⟩
  rcases h2 s hg with h' | h'
  · exact h.core.own h'
  · have := heap_lt h.core.head; omega
theorem stm_setLast {w : World} {s : Nat} {F : Nat → Prop} {E : List Ent} {l : Nat × Nat} (h : Stm w s F E l) {a b : Nat} (ha : a < 18446744073709551616) (hb : b < 18446744073709551616) :
    Calls Tryz.prog 13 #[ptrV s, .agg #[.int .u64 a, .int .u64 b]] w fun e w' =>
      e = .returned (.int .i64 (if lessN (a, b) l then 1 else 0)) ∧ Stm w' s F E (if lessN (a, b) l then l else (a, b)) ∧ Chg F w w' := by
  have h0 := h
  obtain ⟨p, G, R, T, h, hF⟩ := h
  refine (stmSetLast h.core ha hb).mono ?_
  rintro e w' (⟨h1, rfl, h2⟩ | ⟨h1, rfl, h2, h3⟩)
  · rw [if_pos h1, if_pos h1]
    exact ⟨rfl, h0.below h2, Chg.of_below _ h2⟩
  · rw [if_neg (by rw [show lessN (a, b) l = false from h1]; simp), if_neg (by rw [show lessN (a, b) l = false from h1]; simp)]
    refine ⟨rfl, ⟨p, G, R, T, ⟨h2, Rows2.chg h3 (fun j hj e => (h.apart j hj).2 e) h.rows, h.apart, fun j hj => Nat.lt_of_lt_of_le (h.rlt j hj) h3.size, fun e he => ?_⟩, hF⟩, h3.mono fun j hj _ => (hF j).2 (.inl hj)⟩
    have h4 : lessN (a, b) l = false := h1
    have := h.top e he
    rcases less_total this with h' | h'
    · rcases less_total h4 with h5 | h5
      · exact less_asymm (less_trans h' h5)
      · rw [h5]; exact less_asymm h'
    · rw [← h']; exact h4
end Go.Proofs.YtmaemgihhipllaaGreatDoor.Sad

/- SamePairs, SameEntry, SameEntries. -/
namespace Go.Proofs.YtmaemgihhipllaaGreatDoor.Sad
open Go.Proofs.YtmaemgihhipllaaGreatDoor
set_option linter.unusedVariables false
set_option linter.unusedSimpArgs false
open Go.RowKit RT Go.Shelf
theorem pair_struct : Tryz.prog.underlying 68 = some (.struct (Tryz.prog.fieldsOf 68)) := by kernel_rfl
@[go_sem] theorem eq_pair (a b c d : ByteArray) (w : World) : (Op.equalIn 10000 68 (.agg #[.string a, .string b]) (.agg #[.string c, .string d])).run Tryz.prog w = .ok (a.toList == c.toList && b.toList == d.toList) w := by
  rw [show (10000 : Nat) = 9999 + 1 from rfl, run_equalIn_struct w _ _ _ _ pair_struct (by kernel_rfl)]
  have u1 : Tryz.prog.underlying 9 = some .string := Tryz.underlying9
  simp only [Program.fieldsOf, Tryz.underlying68]
  simp [Op.eqFields, part, go_sem, u1]
  cases h1 : (a.toList == c.toList) <;> cases h2 : (b.toList == d.toList) <;> simp_all
@[go_sem] theorem guard_pair (op : BinOp) (w : World) (x y : Operand) (xs ys : Array Value) : (eqGuard op 68 x y (.agg xs) (.agg ys)).run Tryz.prog w = .ok () w := run_eqGuard_agg w op _ x y xs ys (by kernel_rfl)
/-- It answers whether P. -/
def SaysB (P : Prop) (w : World) (e : Ending) (w' : World) : Prop := ∃ r : Bool, e = .returned (.bool r) ∧ (r = true ↔ P) ∧ Below w.heap.size w w'
theorem bytes_beq (a c : ByteArray) : (a.toList == c.toList) = decide (a = c) := by
  rw [Bool.eq_iff_iff, beq_iff_eq, decide_eq_true_eq, ByteArray.toList_eq, ByteArray.toList_eq]
  exact ⟨fun h => ByteArray.ext (Array.toList_inj.1 h), fun h => by rw [h]⟩
theorem take_eq_succ {L M : List PairT} {k : Nat} (h1 : k < L.length) (h2 : k < M.length) : (L.take (k + 1) = M.take (k + 1)) ↔ (L.take k = M.take k ∧ L.getD k e0 = M.getD k e0) := by
  rw [List.take_succ_eq_append_getElem h1, List.take_succ_eq_append_getElem h2]
  have g1 : L.getD k e0 = L[k] := by simp [List.getD, h1]
  have g2 : M.getD k e0 = M[k] := by simp [List.getD, h2]
  rw [g1, g2]
  constructor
  · intro h
    have := List.append_inj' h rfl
    exact ⟨this.1, by simpa using this.2⟩
  · rintro ⟨h, h'⟩; rw [h, h']
set_option maxHeartbeats 3200000 in
set_option maxRecDepth 100000 in
theorem samePairs {w : World} {a a' : Option Addr} {n n' c c' : Nat} {L M : List PairT} (h : PairRow w a n c L) (h' : PairRow w a' n' c' M) (hn : n ≤ 4000000000000) :
    Calls Tryz.prog 84 #[.slice a n c, .slice a' n' c'] w (SaysB (L = M) w) := by
  have HR := Lib.hid (And.intro h h')
  have hl : L.length = n := h.1
  have hl' : M.length = n' := h'.1
  by_cases hnn : n = n'
  · subst hnn
    have HL := Lib.hid (And.intro hl hl')
    clear h h' hl hl'
    have e1 : ((n : Int) == (n : Int)) = true := by simp
    go_enter Tryz.func84, Tryz.ntmps84
    go_wp2_with fail
    go_loopw [5] (fun i wr => ∃ k : Nat, k ≤ n ∧ i = .int .i64 k ∧ Hid (L.take k = M.take k ∧ Below w.heap.size w wr)) (fun i _ => n - (intOf i).toNat)
    case atStart => exact ⟨0, Nat.zero_le _, rfl, Lib.hid ⟨by simp, Below.refl _ _⟩⟩
    case round =>
      obtain ⟨k, hk, rfl, hI⟩ := hrel
      by_cases hlt : k < n
      · have hC := fun w' (hb : Below w.heap.size w w') => And.intro (((HR.out.1.below hb)).cells hlt) ((HR.out.2.below hb).cells hlt)
        obtain ⟨⟨b, o, rfl, _⟩, ⟨b', o', rfl, _⟩⟩ := hC wr hI.out.2
        obtain ⟨f, hf⟩ : ∃ f, L.getD k e0 = f := ⟨_, rfl⟩
        obtain ⟨g, hg⟩ : ∃ g, M.getD k e0 = g := ⟨_, rfl⟩
        have hC2 : ∀ w', Below w.heap.size w w' → (w'.cell? ⟨b, o + k * 2, none⟩ = some (.string f.1) ∧ w'.cell? ⟨b, o + k * 2 + 1, none⟩ = some (.string f.2)) ∧ w'.cell? ⟨b', o' + k * 2, none⟩ = some (.string g.1) ∧ w'.cell? ⟨b', o' + k * 2 + 1, none⟩ = some (.string g.2) := fun w' hb => by
          obtain ⟨⟨b1, o1, e1, _, d0, d1⟩, ⟨b2, o2, e2, _, d2, d3⟩⟩ := hC w' hb
          cases e1
          cases e2
          rw [hf] at d0 d1
          rw [hg] at d2 d3
          exact ⟨⟨d0, d1⟩, d2, d3⟩
        have hs := take_eq_succ (k := k) (L := L) (M := M) (by rw [HL.out.1]; exact hlt) (by rw [HL.out.2]; exact hlt)
        rw [hf, hg] at hs
        obtain ⟨f1, f2⟩ := f
        obtain ⟨g1, g2⟩ := g
        have c0 := hC2 wr.drew (belowN hI.out.2 1)
        obtain ⟨X1, fw, hX1, hfw, hF⟩ := classOf (fun w' => (w'.cell? ⟨b, o + k * 2, none⟩ = some (.string f1) ∧ w'.cell? ⟨b, o + k * 2 + 1, none⟩ = some (.string f2)) ∧ w'.cell? ⟨b', o' + k * 2, none⟩ = some (.string g1) ∧ w'.cell? ⟨b', o' + k * 2 + 1, none⟩ = some (.string g2)) (w := wr.drew) c0
        have k1 := fun x => (hfw x).1.1
        have k2 := fun x => (hfw x).1.2
        have k3 := fun x => (hfw x).2.1
        have k4 := fun x => (hfw x).2.2
        have HFa := Lib.hid (hF wr.drew c0)
        have HS := Lib.hid hs
        have hbd1 : k < n := hlt
        clear hF hfw c0 hC hC2 hf hg hs
        obtain ⟨t1, ht1⟩ : ∃ t1, (f1.toList == g1.toList) = t1 := ⟨_, rfl⟩
        obtain ⟨t2, ht2⟩ : ∃ t2, (f2.toList == g2.toList) = t2 := ⟨_, rfl⟩
        have HT := Lib.hid (show (t1 && t2) = true ↔ (f1, f2) = (g1, g2) by rw [← ht1, ← ht2, bytes_beq, bytes_beq]; simp)
        cases t1 <;> cases t2
        all_goals
          go_upto_region 6 with (fail)
          refine wp_region_text ⟨[], [], 9⟩ (fun w' => ∃ x : X1, w' = fw x) (by kernel_rfl) (by kernel_rfl) HFa.out ?_
          refine wpC_seg false (HFa.out) 9 0 _ _ (by rfl) (by rfl) ?_
          simp only [List.take_succ_cons, List.take_zero, List.drop_succ_cons, List.drop_zero, Bool.false_eq_true, if_false, Nat.zero_add, Nat.reduceAdd]
          repeat (go_big_quiet_step (fail))
          refine wpQuiet_nil ?_
          refine wpC_nil ?_
          go_wp2_with fail
        all_goals first
          | exact bodyPost_ret (results_tmp rfl _ _ _) rfl ⟨false, rfl, ⟨fun h => (by cases h), fun h => absurd (HT.out.2 ((HS.out.1 (by rw [h])).2)) (by decide)⟩, belowN hI.out.2 1⟩
          | (go_roundw
             case rel => exact ⟨k + 1, by omega, by go_num, Lib.hid ⟨HS.out.2 ⟨hI.out.1, HT.out.1 rfl⟩, belowN hI.out.2 1⟩⟩
             case measure => simp [intOf]; omega)
      · obtain rfl : n = k := by omega
        go_wp2_with fail
        go_ret
        have h1 := hI.out.1
        rw [List.take_of_length_le (by rw [HL.out.1]; exact Nat.le_refl _), List.take_of_length_le (by rw [HL.out.2]; exact Nat.le_refl _)] at h1
        exact ⟨true, rfl, by simp [h1], hI.out.2⟩
  · have e1 : ((n : Int) == (n' : Int)) = false := by simp; omega
    have HL := Lib.hid (show L ≠ M from fun e => hnn (by rw [← hl, ← hl', e]))
    clear h h' hl hl' hnn
    go_enter Tryz.func84, Tryz.ntmps84
    go_wp2_with fail
    go_ret
    exact ⟨false, rfl, ⟨fun h => (by cases h), fun h => absurd h HL.out⟩, Below.refl _ _⟩
end Go.Proofs.YtmaemgihhipllaaGreatDoor.Sad

/- SameEntry, SameEntries: rows of entries in memory. -/
namespace Go.Proofs.YtmaemgihhipllaaGreatDoor.Sad
open Go.Proofs.YtmaemgihhipllaaGreatDoor
set_option linter.unusedVariables false
set_option linter.unusedSimpArgs false
open Go.RowKit RT Go.Shelf
theorem SaysB.mono {P Q : Prop} {w : World} {e : Ending} {w' : World} (h : SaysB P w e w') (hpq : P ↔ Q) : SaysB Q w e w' := by
  obtain ⟨r, h1, h2, h3⟩ := h
  exact ⟨r, h1, h2.trans hpq, h3⟩
set_option maxHeartbeats 3200000 in
set_option maxRecDepth 100000 in
theorem sameEntry {w : World} {x y : Told} {e f : Ent} (hx : PairRow w x.2.2.1 x.2.2.2.1 x.2.2.2.2 e.2) (hxi : idT2 x = e.1) (hxn : x.2.2.2.1 ≤ 4000000000000) (hy : PairRow w y.2.2.1 y.2.2.2.1 y.2.2.2.2 f.2) (hyi : idT2 y = f.1) :
    Calls Tryz.prog 49 #[.agg #[.int .u64 x.1, .int .u64 x.2.1, vC x.2.2], .agg #[.int .u64 y.1, .int .u64 y.2.1, vC y.2.2]] w (SaysB (e = f) w) := by
  obtain ⟨xm, xq, xa, xn, xc⟩ := x
  obtain ⟨ym, yq, ya, yn, yc⟩ := y
  dsimp only [idT2, vC] at *
  obtain ⟨w1, hw1⟩ : ∃ w1, w1 = (w.alloc (.cells #[.int .u64 xm, .int .u64 xq, .slice xa xn xc] 50)).alloc (.cells #[.int .u64 ym, .int .u64 yq, .slice ya yn yc] 50) := ⟨_, rfl⟩
  have hb1 : Below w.heap.size w w1 := by rw [hw1]; exact ((Below.refl _ _).alloc (Nat.le_refl _) _).alloc (by simp) _
  have k1 : w1.heap[w.heap.size]? = some (.cells #[.int .u64 xm, .int .u64 xq, .slice xa xn xc] 50 (0, 0)) := by rw [hw1]; exact heap_old (heap_new _ _) _
  have k2 : w1.heap[w.heap.size + 1]? = some (.cells #[.int .u64 ym, .int .u64 yq, .slice ya yn yc] 50 (0, 0)) := by
    rw [hw1]
    have := heap_new (w.alloc (.cells #[.int .u64 xm, .int .u64 xq, .slice xa xn xc] 50)) (.cells #[.int .u64 ym, .int .u64 yq, .slice ya yn yc] 50)
    rw [World.size_alloc] at this
    exact this
  have c0 := cell_in k1 (i := 0) rfl
  have c1 := cell_in k1 (i := 1) rfl
  have c2 := cell_in k1 (i := 2) rfl
  have d0 := cell_in k2 (i := 0) rfl
  have d1 := cell_in k2 (i := 1) rfl
  have d2 := cell_in k2 (i := 2) rfl
  have HS := Lib.hid (samePairs (hx.below hb1) (hy.below hb1) hxn)
  have HW := Lib.hid hw1
  have HB := Lib.hid hb1
  have HI := Lib.hid (And.intro hxi hyi)
  by_cases hid : xm = ym ∧ xq = yq
  · obtain ⟨rfl, rfl⟩ := hid
    clear hx hy hxi hyi hxn hw1 hb1 k1 k2
    go_enter Tryz.func49, Tryz.ntmps49
    go_wp2_with fail
    rw [← HW.out]
    refine HS.out.mono ?_
    rintro e' w2 ⟨r, rfl, hr, b2⟩
    have HR := Lib.hid (And.intro hr b2)
    clear hr b2
    go_wp2_with fail
    go_ret
    refine ⟨r, rfl, HR.out.1.trans ?_, HB.out.trans (HR.out.2.mono HB.out.size)⟩
    have h1 := HI.out
    rw [Prod.ext_iff, ← h1.1, ← h1.2]
    simp
  · rcases Decidable.em (xm = ym) with rfl | hne
    · have e1 : ((xq : Int) == (yq : Int)) = false := by rw [beq_eq_false_iff_ne]; omega
      have HD := Lib.hid hid
      clear hx hy hxi hyi hxn hw1 hb1 k1 k2 hid
      go_enter Tryz.func49, Tryz.ntmps49
      go_wp2_with fail
      rw [← HW.out]
      go_ret
      refine ⟨false, rfl, ⟨fun h => (by cases h), fun h => ?_⟩, HB.out⟩
      have h1 := HI.out
      have h2 := h1.1.trans ((congrArg Prod.fst h).trans h1.2.symm)
      simp only [Prod.mk.injEq] at h2
      exact absurd h2 HD.out
    · have e1 : ((xm : Int) == (ym : Int)) = false := by rw [beq_eq_false_iff_ne]; omega
      clear hne
      have HD := Lib.hid hid
      clear hx hy hxi hyi hxn hw1 hb1 k1 k2 hid
      go_enter Tryz.func49, Tryz.ntmps49
      go_wp2_with fail
      rw [← HW.out]
      go_ret
      refine ⟨false, rfl, ⟨fun h => (by cases h), fun h => ?_⟩, HB.out⟩
      have h1 := HI.out
      have h2 := h1.1.trans ((congrArg Prod.fst h).trans h1.2.symm)
      simp only [Prod.mk.injEq] at h2
      exact absurd h2 HD.out
/-- A row of entries that can be read. -/
def EntRow (w : World) (a : Option Addr) (n c : Nat) (E : List Ent) : Prop :=
  E.length = n ∧ n ≤ c ∧ (n = 0 ∨ ∃ b o, a = some ⟨b, o, none⟩ ∧ ∀ i (h : i < E.length), ∃ x : Told, (∀ j, j < 3 → w.cell? ⟨b, o + i * 3 + j, none⟩ = some ((entV x).getD j undef)) ∧ idT2 x = E[i].1 ∧ PairRow w x.2.2.1 x.2.2.2.1 x.2.2.2.2 E[i].2 ∧ x.2.2.2.1 ≤ 4000000000000)
theorem EntRow.get {w : World} {a : Option Addr} {n c : Nat} {E : List Ent} (h : EntRow w a n c E) {i : Nat} (hi : i < n) : ∃ b o x e, a = some ⟨b, o, none⟩ ∧ (w.cell? ⟨b, o + i * 3, none⟩ = some (.int .u64 x.1) ∧ w.cell? ⟨b, o + i * 3 + 1, none⟩ = some (.int .u64 x.2.1) ∧ w.cell? ⟨b, o + i * 3 + 1 + 1, none⟩ = some (vC x.2.2)) ∧ E[i]? = some e ∧ idT2 x = e.1 ∧ PairRow w x.2.2.1 x.2.2.2.1 x.2.2.2.2 e.2 ∧ x.2.2.2.1 ≤ 4000000000000 := by
  obtain ⟨h1, h2, h3⟩ := h
  obtain ⟨b, o, e, hc⟩ := h3.resolve_left (by omega)
  obtain ⟨x, hx, h4⟩ := hc i (by omega)
  exact ⟨b, o, x, E[i]'(by omega), e, ⟨hx 0 (by omega), hx 1 (by omega), hx 2 (by omega)⟩, List.getElem?_eq_getElem _, h4⟩
theorem EntRow.chg {w w' : World} {a : Option Addr} {n c : Nat} {E : List Ent} (h : EntRow w a n c E) (hb : Below w.heap.size w w') : EntRow w' a n c E := by
  refine ⟨h.1, h.2.1, h.2.2.imp id ?_⟩
  rintro ⟨b, o, e, hc⟩
  refine ⟨b, o, e, fun i hi => ?_⟩
  obtain ⟨x, hx, h1, h2, h3⟩ := hc i hi
  refine ⟨x, fun j hj => ?_, h1, h2.below hb, h3⟩
  rw [hb.cell (p := ⟨b, o + i * 3 + j, none⟩) (World.block_lt_of_cell? w _ (hx j hj))]
  exact hx j hj
theorem flatE : ∀ (A : List Told) (i : Nat) (h : i < A.length) (j : Nat), j < 3 → (A.flatMap entV).getD (i * 3 + j) undef = (entV A[i]).getD j undef
  | p :: A, 0, _, j, hj => by
    simp only [List.flatMap_cons, List.getD, Nat.zero_mul, Nat.zero_add, List.getElem_cons_zero]
    rw [List.getElem?_append_left (by simp [entV]; exact hj)]
  | p :: A, i + 1, h, j, hj => by
    have := flatE A i (by simpa using h) j hj
    simp only [List.flatMap_cons, List.getD, List.getElem_cons_succ] at this ⊢
    rw [List.getElem?_append_right (by simp [entV]; omega), show (i + 1) * 3 + j - (entV p).length = i * 3 + j by simp [entV]; omega]
    exact this
theorem EntsOut.row {w : World} {n₀ : Nat} {v : Value} {E : List Ent} (h : EntsOut w n₀ v E) : ∃ a c, v = .slice a E.length c ∧ EntRow w a E.length c E := by
  obtain ⟨a, c, hv, hc, _⟩ := h.form
  obtain ⟨Vs, h1, h2, h3⟩ := h
  have hl := h2.length
  refine ⟨a, c, hv, rfl, hc, ?_⟩
  rcases Nat.eq_zero_or_pos E.length with h0 | h0
  · exact .inl h0
  · obtain ⟨g, cap, cur, he, _⟩ := h1.2.resolve_left (by omega)
    rw [hv] at he
    simp only [Value.slice.injEq] at he
    obtain ⟨rfl, _, rfl⟩ := he
    refine .inr ⟨g, 0, rfl, fun i hi => ?_⟩
    have hr := h2.get i (by omega) hi
    refine ⟨Vs[i], fun j hj => ?_, hr.1, hr.2.1, hr.2.2.1.2⟩
    have := h1.cell (g := g) (i := i * 3 + j) hv (by omega)
    rw [Nat.zero_add, this, flatE Vs i (by omega) j hj]
theorem ent_take {E F : List Ent} {k : Nat} {e f : Ent} (h1 : E[k]? = some e) (h2 : F[k]? = some f) : (E.take (k + 1) = F.take (k + 1)) ↔ (E.take k = F.take k ∧ e = f) := by
  obtain ⟨hk, rfl⟩ := List.getElem?_eq_some_iff.1 h1
  obtain ⟨hk', rfl⟩ := List.getElem?_eq_some_iff.1 h2
  rw [List.take_succ_eq_append_getElem hk, List.take_succ_eq_append_getElem hk']
  constructor
  · intro h
    have := List.append_inj' h rfl
    exact ⟨this.1, by simpa using this.2⟩
  · rintro ⟨h, h'⟩; rw [h, h']
set_option maxHeartbeats 3200000 in
set_option maxRecDepth 100000 in
theorem sameEntries {w : World} {a a' : Option Addr} {n n' c c' : Nat} {E F : List Ent} (h : EntRow w a n c E) (h' : EntRow w a' n' c' F) (hn : n ≤ 4000000000000) :
    Calls Tryz.prog 9 #[.slice a n c, .slice a' n' c'] w (SaysB (E = F) w) := by
  have HR := Lib.hid (And.intro h h')
  have hl : E.length = n := h.1
  have hl' : F.length = n' := h'.1
  by_cases hnn : n = n'
  · subst hnn
    have HL := Lib.hid (And.intro hl hl')
    clear h h' hl hl'
    have e1 : ((n : Int) == (n : Int)) = true := by simp
    go_enter Tryz.func9, Tryz.ntmps9
    go_wp2_with fail
    go_loopw [5] (fun i wr => ∃ k : Nat, k ≤ n ∧ i = .int .i64 k ∧ Hid (E.take k = F.take k ∧ Below w.heap.size w wr)) (fun i _ => n - (intOf i).toNat)
    case atStart => exact ⟨0, Nat.zero_le _, rfl, Lib.hid ⟨by simp, Below.refl _ _⟩⟩
    case round =>
      obtain ⟨k, hk, rfl, hI⟩ := hrel
      by_cases hlt : k < n
      · obtain ⟨b, o, x, e, rfl, ⟨c0, c1, c2⟩, he, hxi, hxp, hxn⟩ := (HR.out.1.chg (belowN hI.out.2 1)).get hlt
        obtain ⟨b', o', y, f, rfl, ⟨d0, d1, d2⟩, hf, hyi, hyp, hyn⟩ := (HR.out.2.chg (belowN hI.out.2 1)).get hlt
        have HS := Lib.hid (ent_take he hf)
        have HC := Lib.hid (sameEntry hxp hxi hxn hyp hyi)
        obtain ⟨xm, xq, xa, xn, xc⟩ := x
        obtain ⟨ym, yq, ya, yn, yc⟩ := y
        dsimp only [vC] at c0 c1 c2 d0 d1 d2 HC
        obtain ⟨X1, fw, hX1, hfw, hF⟩ := classOf (fun w' => (w'.cell? ⟨b, o + k * 3, none⟩ = some (.int .u64 xm) ∧ w'.cell? ⟨b, o + k * 3 + 1, none⟩ = some (.int .u64 xq) ∧ w'.cell? ⟨b, o + k * 3 + 1 + 1, none⟩ = some (.slice xa xn xc)) ∧ w'.cell? ⟨b', o' + k * 3, none⟩ = some (.int .u64 ym) ∧ w'.cell? ⟨b', o' + k * 3 + 1, none⟩ = some (.int .u64 yq) ∧ w'.cell? ⟨b', o' + k * 3 + 1 + 1, none⟩ = some (.slice ya yn yc)) (w := wr.drew) ⟨⟨c0, c1, c2⟩, d0, d1, d2⟩
        have k1 := fun x => (hfw x).1.1
        have k2 := fun x => (hfw x).1.2.1
        have k3 := fun x => (hfw x).1.2.2
        have k4 := fun x => (hfw x).2.1
        have k5 := fun x => (hfw x).2.2.1
        have k6 := fun x => (hfw x).2.2.2
        have HFa := Lib.hid (hF wr.drew ⟨⟨c0, c1, c2⟩, d0, d1, d2⟩)
        clear hF hfw c0 c1 c2 d0 d1 d2 he hf hxi hxp hxn hyi hyp hyn
        go_upto_region 6 with (fail)
        refine wp_region_text ⟨[8], [9], 8⟩ (fun w' => ∃ x : X1, w' = fw x) (by kernel_rfl) (by kernel_rfl) HFa.out ?_
        refine wpC_seg false (HFa.out) 8 0 _ _ (by rfl) (by rfl) ?_
        simp only [List.take_succ_cons, List.take_zero, List.drop_succ_cons, List.drop_zero, Bool.false_eq_true, if_false, Nat.zero_add, Nat.reduceAdd]
        repeat (go_big_quiet_step (fail))
        refine wpQuiet_nil ?_
        refine wpC_loud (by rfl) (by rfl) fun K hK => ?_
        go_wp2_with fail
        refine HC.out.mono ?_
        rintro e' w2 ⟨r, rfl, hr, b2⟩
        have HR2 := Lib.hid (And.intro hr ((belowN hI.out.2 1).trans (b2.mono (belowN hI.out.2 1).size)))
        refine hK _ _ (fun h => absurd h (by decide)) ?_
        clear hK hr b2
        refine wpC_segD 1 9 _ _ (by rfl) (by rfl) ?_
        simp only [List.take_succ_cons, List.take_zero, List.drop_succ_cons, List.drop_zero, if_true, Nat.zero_add, Nat.reduceAdd]
        repeat (go_big_quiet_step (fail))
        refine wpQuiet_nil ?_
        refine wpC_nil ?_
        clear k1 k2 k3 k4 k5 k6 hX1 HFa fw
        cases r
        case' false =>
          go_wp2_with fail
          exact bodyPost_ret (results_tmp rfl _ _ _) rfl ⟨false, rfl, ⟨fun h => (by cases h), fun h => absurd (HR2.out.1.2 ((HS.out.1 (by rw [h])).2)) (by decide)⟩, HR2.out.2⟩
        case' true =>
          go_wp2_with fail
          go_roundw
          case rel => exact ⟨k + 1, by omega, by go_num, Lib.hid ⟨HS.out.2 ⟨hI.out.1, HR2.out.1.1 rfl⟩, HR2.out.2⟩⟩
          case measure => simp [intOf]; omega
      · obtain rfl : n = k := by omega
        go_wp2_with fail
        go_ret
        have h1 := hI.out.1
        rw [List.take_of_length_le (by rw [HL.out.1]; exact Nat.le_refl _), List.take_of_length_le (by rw [HL.out.2]; exact Nat.le_refl _)] at h1
        exact ⟨true, rfl, by simp [h1], hI.out.2⟩
  · have e1 : ((n : Int) == (n' : Int)) = false := by simp; omega
    have HL := Lib.hid (show E ≠ F from fun e => hnn (by rw [← hl, ← hl', e]))
    clear h h' hl hl' hnn
    go_enter Tryz.func9, Tryz.ntmps9
    go_wp2_with fail
    go_ret
    exact ⟨false, rfl, ⟨fun h => (by cases h), fun h => absurd h HL.out⟩, Below.refl _ _⟩
end Go.Proofs.YtmaemgihhipllaaGreatDoor.Sad

/- (*stream.Stream).Trim. -/
namespace Go.Proofs.YtmaemgihhipllaaGreatDoor.Sad
open Go.Proofs.YtmaemgihhipllaaGreatDoor
set_option linter.unusedVariables false
set_option linter.unusedSimpArgs false
open Go.RowKit RT Go.Shelf
theorem range_all {E : List Ent} {l : Nat × Nat} (h : ∀ e ∈ E, lessN l e.1 = false) : ((E.filter fun e => !lessN e.1 (0, 0)).takeWhile fun e => !lessN l e.1) = E := by
  rw [List.filter_eq_self.2 fun e _ => by simp [lessN]]
  induction E with
  | nil => rfl
  | cons x E ih =>
    rw [List.takeWhile_cons, if_pos (by rw [h x (by simp)]; rfl), ih fun e he => h e (by simp [he])]
theorem drop_filter {E : List Ent} (h : E.Pairwise fun x y => lessN x.1 y.1 = true) {k : Nat} (hk : k < E.length) : ((E.drop k).filter fun e => !decide (e.1 = E[k].1)) = E.drop (k + 1) := by
  rw [List.drop_eq_getElem_cons hk, List.filter_cons, if_neg (by simp), List.filter_eq_self.2]
  intro e he
  have h2 := (h.sublist (List.drop_sublist k E))
  rw [List.drop_eq_getElem_cons hk, List.pairwise_cons] at h2
  have := h2.1 e he
  simp only [Bool.not_eq_true', decide_eq_false_iff_not]
  intro e'
  rw [e', less_irrefl] at this
  cases this
theorem EntRow.blocks {w w' : World} {n₀ : Nat} {v : Value} {E : List Ent} (h : EntsOut w n₀ v E) {S : Nat → Prop} (hc : Chg S w w') (hs : ∀ k, S k → k < n₀) : EntsOut w' n₀ v E := h.chg hc fun b hb hS => by have := hs b hS; omega
theorem StmO.chg {w w' : World} {s p : Nat} {G R : Nat → Prop} {T : Option RT} {E : List Ent} {l : Nat × Nat} (h : StmO w s p G R T E l) {S : Nat → Prop} (hc : Chg S w w') (hs : ¬ S s) (hG : ∀ k, G k → ¬ S k) (hR : ∀ k, R k → ¬ S k) : StmO w' s p G R T E l :=
  ⟨StmF.chg h.core hc hs hG, Rows2.chg hc hR h.rows, h.apart, fun b hb => Nat.lt_of_lt_of_le (h.rlt b hb) hc.size, h.top⟩
theorem StmO.below {w w' : World} {s p : Nat} {G R : Nat → Prop} {T : Option RT} {E : List Ent} {l : Nat × Nat} (h : StmO w s p G R T E l) (hb : Below w.heap.size w w') : StmO w' s p G R T E l := h.chg (Chg.of_below (fun _ => False) hb) id (fun _ _ => id) fun _ _ => id
/-- How many go. -/
def trimN (n : Nat) (most : Int) : Nat := if most < 0 then 0 else n - most.toNat
set_option maxHeartbeats 3200000 in
set_option maxRecDepth 100000 in
theorem stmTrim {w : World} {s p : Nat} {G R : Nat → Prop} {T : Option RT} {E : List Ent} {l : Nat × Nat} (h : StmO w s p G R T E l) (hn : E.length ≤ 400000) (hrise : E.Pairwise fun x y => lessN x.1 y.1 = true) (h64 : ∀ e ∈ E, e.1.1 < 18446744073709551616 ∧ e.1.2 < 18446744073709551616) {most : Int} (hm1 : -9223372036854775808 ≤ most) (hm2 : most ≤ 9223372036854775807) :
    Calls Tryz.prog 14 #[ptrV s, .int .i64 most] w fun e w' => e = .returned (.int .i64 (trimN E.length most : Nat)) ∧ ∃ G' T', StmO w' s p G' R T' (E.drop (trimN E.length most)) l ∧ Fresh w G G' ∧ Chg G w w' := by
  obtain ⟨N, hN⟩ : ∃ N, E.length = N := ⟨_, rfl⟩
  have HLen := Lib.hid (stmLen h.core)
  rw [hN] at HLen
  have H0 := Lib.hid h
  unfold ptrV at HLen
  unfold ptrV
  rcases (show most < 0 ∨ 0 ≤ most by omega) with hneg | hpos
  · have ht : trimN E.length most = 0 := by unfold trimN; rw [if_pos hneg]
    rw [ht]
    have e1 : decide (most < 0) = true := decide_eq_true hneg
    clear h hN ht HLen hneg
    go_enter Tryz.func14, Tryz.ntmps14
    go_wp2_with fail
    go_ret
    exact ⟨rfl, G, T, by rw [List.drop_zero]; exact H0.out, fun k hk => .inl hk, Chg.refl _ _⟩
  · obtain ⟨mo, rfl⟩ : ∃ mo : Nat, most = mo := ⟨most.toNat, by omega⟩
    have ht : trimN E.length mo = N - mo := by unfold trimN; rw [if_neg (by omega), hN]; simp
    rw [ht]
    have e1 : decide ((mo : Int) < 0) = false := decide_eq_false (by omega)
    rcases Nat.lt_or_ge mo N with hmN | hmN
    · obtain ⟨m, hm⟩ : ∃ m, N - mo = m := ⟨_, rfl⟩
      rw [hm]
      have hmle : m ≤ N := by omega
      have e2 : decide ((N : Int) ≤ (mo : Int)) = false := decide_eq_false (by omega)
      have e2' : decide (N ≤ mo) = false := decide_eq_false (by omega)
      have e3 : (N : Int) - (mo : Int) = (m : Int) := by omega
      have e4 : IntKind.i64.wrap ((N : Int) - (mo : Int)) = (m : Int) := by rw [e3]; exact IntWalk.i64_in _ (by omega)
      have HLd0 := fun w' (hb : Below w.heap.size w w') => stmLen (h.core.below hb)
      rw [hN] at HLd0
      have HLd := Lib.hid HLd0
      have HRg := stmRange (c := l.1) (d := l.2) (most := (m : Int)) (h.core.below (belowN (Below.refl w.heap.size w) 1)) (Rows2.chg (Chg.drewN (fun _ => False) w 1) (fun _ _ => id) h.rows) (h.nodes hn) (a := 0) (b := 0) (by omega) (by omega)
      rw [show ((l.1, l.2) : Nat × Nat) = l from rfl, range_all h.top, show ((m : Int)).toNat = m by omega] at HRg
      have HR := Lib.hid HRg
      have c1 := cell_in h.core.head (i := 1) rfl
      have c2 := cell_in h.core.head (i := 2) rfl
      have HC := Lib.hid (show ∀ w', Below w.heap.size w w' → w'.cell? ⟨s, 1, none⟩ = some (.int .u64 l.1) ∧ w'.cell? ⟨s, 2, none⟩ = some (.int .u64 l.2) from fun w' hb => by
        have e1 := (hb.block _ (heap_lt h.core.head)).trans h.core.head
        exact ⟨cell_in e1 rfl, cell_in e1 rfl⟩)
      clear c1 c2
      obtain ⟨lm, lq⟩ := l
      have c0 := HC.out w.drew (belowN (Below.refl _ _) 1)
      obtain ⟨X1, f, hX1, hf, hF⟩ := classOf (fun w' => w'.cell? ⟨s, 1, none⟩ = some (.int .u64 lm) ∧ w'.cell? ⟨s, 2, none⟩ = some (.int .u64 lq)) (w := w.drew) c0
      have f1 := fun x => (hf x).1
      have f2 := fun x => (hf x).2
      have HFa := Lib.hid (hF w.drew c0)
      have HE := Lib.hid (And.intro hN (And.intro hrise (And.intro h64 hn)))
      have HM := Lib.hid (And.intro hm hmN)
      have hN2 : N ≤ 400000 := by omega
      dsimp only at HR
      clear hF hf h c0 hN hrise h64 hm hmN ht HRg hm1 hm2 hn e3 HLd0
      unfold ptrV at HLd HR
      go_enter Tryz.func14, Tryz.ntmps14
      go_wp2_with fail
      refine HLen.out.mono ?_
      rintro e w' ⟨rfl, rfl⟩
      go_upto_region 3 with (fail)
      refine wp_region_text ⟨[7, 10], [11], 10⟩ (fun w' => ∃ x : X1, w' = f x) (by kernel_rfl) (by kernel_rfl) HFa.out ?_
      refine wpC_seg false (HFa.out) 7 0 _ _ (by rfl) (by rfl) ?_
      simp only [List.take_succ_cons, List.take_zero, List.drop_succ_cons, List.drop_zero, Bool.false_eq_true, if_false, Nat.zero_add, Nat.reduceAdd]
      repeat (go_big_quiet_step (fail))
      refine wpQuiet_nil ?_
      refine wpC_loud (by rfl) (by rfl) fun K hK => ?_
      go_wp2_with fail
      refine (HLd.out _ (belowN (Below.refl _ _) 1)).mono ?_
      rintro e w2 ⟨rfl, hww⟩
      rw [hww]
      refine hK _ _ (fun _ => HFa.out) ?_
      clear hK hww w2
      refine wpC_seg false (HFa.out) 2 8 _ _ (by rfl) (by rfl) ?_
      simp only [List.take_succ_cons, List.take_zero, List.drop_succ_cons, List.drop_zero, Bool.false_eq_true, if_false, Nat.zero_add, Nat.reduceAdd]
      repeat (go_big_quiet_step (fail))
      refine wpQuiet_nil ?_
      clear e4
      refine wpC_loud (by rfl) (by rfl) fun K hK => ?_
      go_wp2_with fail
      refine HR.out.mono ?_
      rintro e w2 ⟨v, rfl, o2, b2⟩
      have HB2 := Lib.hid ((belowN (Below.refl w'.heap.size w') 1).trans b2)
      obtain ⟨av, cv, rfl, _, _⟩ := o2.form
      have hlt : (E.take m).length = m := by rw [List.length_take]; have := HE.out.1; omega
      rw [hlt] at o2 ⊢
      have HO := Lib.hid o2
      have HlT := Lib.hid hlt
      refine hK _ _ (fun h => absurd h (by decide)) ?_
      clear hK b2 o2 hlt
      refine wpC_segD 1 11 _ _ (by rfl) (by rfl) ?_
      simp only [List.take_succ_cons, List.take_zero, List.drop_succ_cons, List.drop_zero, if_true, Nat.zero_add, Nat.reduceAdd]
      repeat (go_big_quiet_step (fail))
      refine wpQuiet_nil ?_
      refine wpC_nil ?_
      clear f1 f2 hX1 HFa f HR HLd HLen
      go_wp2_with fail
      go_loopw [29] (fun i wr => ∃ k : Nat, k ≤ m ∧ i = .int .i64 k ∧ Hid (∃ G' T', StmO wr s p G' R T' (E.drop k) (lm, lq) ∧ Fresh w2 G G' ∧ Chg G w2 wr)) (fun i _ => m - (intOf i).toNat)
      case atStart => exact ⟨0, Nat.zero_le _, rfl, Lib.hid ⟨G, T, by rw [List.drop_zero]; exact H0.out.below HB2.out, fun k hk => .inl hk, Chg.refl _ _⟩⟩
      case round =>
        obtain ⟨k, hk, rfl, hI⟩ := hrel
        by_cases hlt : k < m
        · obtain ⟨G', T', hO, hfr, hch⟩ := hI.out
          have hGlt : ∀ j, G j → j < w'.heap.size := H0.out.core.tree.1
          have ho := EntRow.blocks HO.out hch hGlt
          obtain ⟨ar, cr, hv, hrow⟩ := ho.row
          rw [HlT.out] at hv hrow
          simp only [Value.slice.injEq, true_and] at hv
          obtain ⟨rfl, rfl⟩ := hv
          obtain ⟨b, o, x, e, rfl, ⟨c0, c1, c2⟩, he, hxi, _⟩ := hrow.get hlt
          obtain ⟨xm, xq, xa, xn, xc⟩ := x
          dsimp only [vC] at c0 c1 c2
          have heE : E[k]? = some e := by rw [List.getElem?_take_of_lt hlt] at he; exact he
          obtain ⟨hkE, hek⟩ := List.getElem?_eq_some_iff.1 heE
          have he1 : e.1 = (xm, xq) := hxi.symm
          have h64 := HE.out.2.2.1 e (by rw [← hek]; exact List.getElem_mem hkE)
          rw [he1] at h64
          obtain ⟨W5, hW5⟩ : ∃ W5, W5 = wr.alloc (.cells #[.int .u64 xm, .int .u64 xq, .slice xa xn xc] 50) := ⟨_, rfl⟩
          have hb5 : Below wr.heap.size wr W5 := by rw [hW5]; exact (Below.refl _ _).alloc (Nat.le_refl _) _
          have h55 : W5.heap[wr.heap.size]? = some (.cells #[.int .u64 xm, .int .u64 xq, .slice xa xn xc] 50 (0, 0)) := by rw [hW5]; exact heap_new _ _
          have hO5 := hO.below hb5
          have hO5d := hO5.below (belowN (Below.refl W5.heap.size W5) 1)
          have HD := Lib.hid (tree_del hO5d (by rw [List.length_drop]; have := HE.out.2.2.2; omega) h64.1 h64.2)
          have HEnd := Lib.hid (show ∀ w3 G'' T'', StmO w3 s p G'' R T'' ((E.drop k).filter fun e => !decide (e.1 = (xm, xq))) (lm, lq) → Fresh (W5.drewN 1) G' G'' → Chg G' (W5.drewN 1) w3 → ∃ G' T', StmO w3 s p G' R T' (E.drop (k + 1)) (lm, lq) ∧ Fresh w2 G G' ∧ Chg G w2 w3 from fun w3 G'' T'' h1 h2 h3 => by
            rw [← he1, ← hek, drop_filter HE.out.2.1 hkE] at h1
            have hsz : w2.heap.size ≤ W5.heap.size := Nat.le_trans hch.size hb5.size
            refine ⟨G'', T'', h1, fun j hj => ?_, ((hch.trans (Chg.of_below G (hb5.trans ((belowN (Below.refl W5.heap.size W5) 1).mono hb5.size))) fun _ h _ => h).trans h3 fun j hj hlt => ?_)⟩
            · rcases h2 j hj with h' | h'
              · exact hfr j h'
              · exact .inr (Nat.le_trans hsz h')
            · rcases hfr j hj with h' | h'
              · exact h'
              · omega)
          have hc0 := cell_in hO5d.core.head (i := 0) rfl
          have hc1 := cell_in h55 (i := 0) rfl
          have hc2 := cell_in h55 (i := 1) rfl
          unfold ptrV at hc0
          obtain ⟨X1, f, hX1, hf, hF⟩ := classOf (fun w' => w'.cell? ⟨s, 0, none⟩ = some (.pointer (some ⟨p, 0, none⟩)) ∧ w'.cell? ⟨wr.heap.size, 0, none⟩ = some (.int .u64 xm) ∧ w'.cell? ⟨wr.heap.size, 1, none⟩ = some (.int .u64 xq)) (w := W5.drew) ⟨hc0, hc1, hc2⟩
          have f1 := fun x => (hf x).1
          have f2 := fun x => (hf x).2.1
          have f3 := fun x => (hf x).2.2
          have HFa := Lib.hid (hF W5.drew ⟨hc0, hc1, hc2⟩)
          have HW5 := Lib.hid hW5
          unfold ptrV at HD
          clear hF hf hc0 hc1 hc2 hO hfr hch hGlt ho hrow hxi he heE hkE hek he1 h64 hW5 hb5 h55 hO5 hO5d hI
          go_upto_region 7 with (fail)
          rw [← HW5.out]
          refine wp_region_text ⟨[6], [], 6⟩ (fun w' => ∃ x : X1, w' = f x) (by kernel_rfl) (by kernel_rfl) HFa.out ?_
          refine wpC_seg false (HFa.out) 6 0 _ _ (by rfl) (by rfl) ?_
          simp only [List.take_succ_cons, List.take_zero, List.drop_succ_cons, List.drop_zero, Bool.false_eq_true, if_false, Nat.zero_add, Nat.reduceAdd]
          repeat (go_big_quiet_step (fail))
          refine wpQuiet_nil ?_
          refine wpC_loud (by rfl) (by rfl) fun K hK => ?_
          go_wp2_with fail
          refine HD.out.mono ?_
          rintro e' w3 ⟨rfl, G'', T'', h1, h2, h3⟩
          have HN := Lib.hid (HEnd.out w3 G'' T'' h1 h2 h3)
          refine hK _ _ (fun h => absurd h (by decide)) ?_
          clear hK h1 h2 h3 HEnd HD
          refine wpC_nil ?_
          clear f1 f2 f3 hX1 HFa f c0 c1 c2
          go_wp2_with fail
          go_roundw
          case rel => exact ⟨k + 1, by omega, by go_num, HN⟩
          case measure => simp [intOf]; omega
        · obtain rfl : m = k := by omega
          obtain ⟨G', T', hO, hfr, hch⟩ := hI.out
          have HN := Lib.hid (And.intro hO (And.intro (show Fresh w' G G' from fun j hj => (hfr j hj).imp id fun h => Nat.le_trans HB2.out.size h) ((Chg.of_below G HB2.out).trans hch fun _ h _ => h)))
          clear hO hfr hch hI
          go_wp2_with fail
          go_ret
          exact ⟨rfl, _, _, HN.out⟩
    · have hz : N - mo = 0 := by omega
      rw [hz]
      have e2 : decide ((N : Int) ≤ (mo : Int)) = true := decide_eq_true (by omega)
      have e2' : decide (N ≤ mo) = true := decide_eq_true hmN
      clear h hN ht hpos hz
      go_enter Tryz.func14, Tryz.ntmps14
      go_wp2_with fail
      refine HLen.out.mono ?_
      rintro e w' ⟨rfl, rfl⟩
      go_wp2_with fail
      go_ret
      exact ⟨rfl, G, T, by rw [List.drop_zero]; exact H0.out, fun k hk => .inl hk, Chg.refl _ _⟩
end Go.Proofs.YtmaemgihhipllaaGreatDoor.Sad

/- rows of asks; the law's played. -/
namespace Go.Proofs.YtmaemgihhipllaaGreatDoor.Sad
open Go.Proofs.YtmaemgihhipllaaGreatDoor
set_option linter.unusedVariables false
set_option linter.unusedSimpArgs false
open Go.RowKit RT Go.Shelf
theorem stm_trim {w : World} {s : Nat} {F : Nat → Prop} {E : List Ent} {l : Nat × Nat} (h : Stm w s F E l) (hn : E.length ≤ 400000) {most : Int} (hm1 : -9223372036854775808 ≤ most) (hm2 : most ≤ 9223372036854775807) :
    Calls Tryz.prog 14 #[ptrV s, .int .i64 most] w fun e w' => e = .returned (.int .i64 (trimN E.length most : Nat)) ∧ ∃ F', Stm w' s F' (E.drop (trimN E.length most)) l ∧ Fresh w F F' ∧ Chg F w w' := by
  have hr := h.rise
  have h6 := h.lt64.2
  obtain ⟨p, G, R, T, h, hF⟩ := h
  refine (stmTrim h hn hr h6 hm1 hm2).mono ?_
  rintro e w' ⟨rfl, G', T', h1, h2, h3⟩
  refine ⟨rfl, fun j => j = s ∨ G' j ∨ R j, ⟨p, G', R, T', h1, fun k => Iff.rfl⟩, ?_, h3.mono fun j hj _ => (hF j).2 (.inr (.inl hj))⟩
  rintro j (rfl | hj | hj)
  · exact .inl ((hF _).2 (.inl rfl))
  · exact (h2 j hj).imp (fun h => (hF _).2 (.inr (.inl h))) id
  · exact .inl ((hF _).2 (.inr (.inr hj)))
/-- An ask. -/
structure AskN where
  k : Int
  id : Nat × Nat
  a : Option Addr
  n : Nat
  c : Nat
  L : List PairT
  to : Nat × Nat
  N : Int
/-- It stands in memory from a cell on. -/
structure AskAt (w : World) (b o : Nat) (A : AskN) : Prop where
  c0 : w.cell? ⟨b, o, none⟩ = some (.int .u8 A.k)
  c1 : w.cell? ⟨b, o + 1, none⟩ = some (.int .u64 A.id.1)
  c2 : w.cell? ⟨b, o + 1 + 1, none⟩ = some (.int .u64 A.id.2)
  c3 : w.cell? ⟨b, o + 1 + 1 + 1, none⟩ = some (.slice A.a A.n A.c)
  c4 : w.cell? ⟨b, o + 4, none⟩ = some (.int .u64 A.to.1)
  c5 : w.cell? ⟨b, o + 4 + 1, none⟩ = some (.int .u64 A.to.2)
  c6 : w.cell? ⟨b, o + 6, none⟩ = some (.int .i64 A.N)
  row : PairRow w A.a A.n A.c A.L
  nle : A.n ≤ 1048576
  kb : 0 ≤ A.k ∧ A.k ≤ 255
  idb : A.id.1 < 18446744073709551616 ∧ A.id.2 < 18446744073709551616
  tob : A.to.1 < 18446744073709551616 ∧ A.to.2 < 18446744073709551616
  nb : -9223372036854775808 ≤ A.N ∧ A.N ≤ 9223372036854775807
theorem AskAt.below {w w' : World} {b o : Nat} {A : AskN} (h : AskAt w b o A) (hb : Below w.heap.size w w') : AskAt w' b o A := by
  have e : ∀ x v, w.cell? ⟨b, x, none⟩ = some v → w'.cell? ⟨b, x, none⟩ = some v := fun x v hv => (hb.cell (p := ⟨b, x, none⟩) (World.block_lt_of_cell? w _ hv)).trans hv
  exact ⟨e _ _ h.c0, e _ _ h.c1, e _ _ h.c2, e _ _ h.c3, e _ _ h.c4, e _ _ h.c5, e _ _ h.c6, h.row.below hb, h.nle, h.kb, h.idb, h.tob, h.nb⟩
def AskRow (w : World) (a : Option Addr) (n c : Nat) (Q : List AskN) : Prop :=
  Q.length = n ∧ n ≤ c ∧ (n = 0 ∨ ∃ b o, a = some ⟨b, o, none⟩ ∧ ∀ i (h : i < Q.length), AskAt w b (o + i * 7) Q[i])
theorem AskRow.below {w w' : World} {a : Option Addr} {n c : Nat} {Q : List AskN} (h : AskRow w a n c Q) (hb : Below w.heap.size w w') : AskRow w' a n c Q := by
  refine ⟨h.1, h.2.1, h.2.2.imp id ?_⟩
  rintro ⟨b, o, e, hc⟩
  exact ⟨b, o, e, fun i hi => (hc i hi).below hb⟩
theorem AskRow.get {w : World} {a : Option Addr} {n c : Nat} {Q : List AskN} (h : AskRow w a n c Q) {i : Nat} (hi : i < n) : ∃ b o A, a = some ⟨b, o, none⟩ ∧ AskAt w b (o + i * 7) A ∧ Q[i]? = some A := by
  obtain ⟨h1, h2, h3⟩ := h
  obtain ⟨b, o, e, hc⟩ := h3.resolve_left (by omega)
  exact ⟨b, o, Q[i]'(by omega), e, hc i (by omega), List.getElem?_eq_getElem _⟩
/-- May the ask's entry be added? -/
def mayAdd (l : Nat × Nat) (A : AskN) : Bool := decide (A.n ≠ 0) && !A.L.any longP && lessN l A.id
def addP (st : List Ent × (Nat × Nat)) (A : AskN) : List Ent × (Nat × Nat) := if mayAdd st.2 A then (st.1 ++ [(A.id, A.L)], A.id) else st
/-- A stream behind an ask. -/
def stepP (st : List Ent × (Nat × Nat)) (A : AskN) : List Ent × (Nat × Nat) :=
  if A.k = 2 then (st.1.filter fun e => !decide (e.1 = A.id), st.2)
  else if A.k = 3 then (st.1, if lessN A.id st.2 then st.2 else A.id)
  else if A.k = 5 then (st.1.drop (trimN st.1.length A.N), st.2)
  else addP st A
def playP (Q : List AskN) (k : Nat) : List Ent × (Nat × Nat) := (Q.take k).foldl stepP ([], (0, 0))
theorem playP_succ {Q : List AskN} {k : Nat} {A : AskN} (h : Q[k]? = some A) : playP Q (k + 1) = stepP (playP Q k) A := by
  obtain ⟨hk, rfl⟩ := List.getElem?_eq_some_iff.1 h
  unfold playP
  rw [List.take_succ_eq_append_getElem hk, List.foldl_append]
  rfl
theorem stepP_len (st : List Ent × (Nat × Nat)) (A : AskN) : (stepP st A).1.length ≤ st.1.length + 1 := by
  unfold stepP addP
  split
  · exact Nat.le_succ_of_le (List.length_filter_le _ _)
  · split
    · exact Nat.le_succ _
    · split
      · show (st.1.drop _).length ≤ _
        rw [List.length_drop]; omega
      · split
        · show (st.1 ++ _).length ≤ _
          simp
        · exact Nat.le_succ _
theorem playP_len (Q : List AskN) : ∀ k, (playP Q k).1.length ≤ k
  | 0 => by simp [playP]
  | k + 1 => by
    cases h : Q[k]? with
    | none =>
      have hk := List.getElem?_eq_none_iff.1 h
      have e : playP Q (k + 1) = playP Q k := by unfold playP; rw [List.take_of_length_le hk, List.take_of_length_le (by omega)]
      rw [e]
      exact Nat.le_succ_of_le (playP_len Q k)
    | some A =>
      rw [playP_succ h]
      exact Nat.le_trans (stepP_len _ _) (Nat.succ_le_succ (playP_len Q k))
/-- Add of an ask's entry. -/
theorem stm_addAsk {w : World} {s : Nat} {F : Nat → Prop} {E : List Ent} {l : Nat × Nat} (h : Stm w s F E l) (hn : E.length < 1048576) {A : AskN} (hp : PairRow w A.a A.n A.c A.L) (hk : A.n ≤ 4000000000000) (hid : A.id.1 < 18446744073709551616 ∧ A.id.2 < 18446744073709551616) :
    Calls Tryz.prog 15 #[ptrV s, .agg #[.int .u64 A.id.1, .int .u64 A.id.2, .slice A.a A.n A.c]] w fun e w' => e = .returned (.int .i64 (if mayAdd l A then 0 else 1)) ∧ ∃ F', Stm w' s F' (addP (E, l) A).1 (addP (E, l) A).2 ∧ Fresh w F F' ∧ Chg F w w' := by
  by_cases hm : mayAdd l A = true
  · have hm' := hm
    unfold mayAdd at hm'
    simp only [Bool.and_eq_true, decide_eq_true_eq, Bool.not_eq_true'] at hm'
    refine (stm_add h hp hk hid.1 hid.2 (by omega) hm'.1.2 hm'.2 hn).mono ?_
    rintro e w' ⟨rfl, F', h1, h2, h3⟩
    unfold addP
    rw [if_pos hm, if_pos hm]
    exact ⟨rfl, F', h1, h2, h3⟩
  · have hm' : mayAdd l A = false := by simpa using hm
    unfold mayAdd at hm'
    refine (stm_add_bad h hp (by omega) A.id.1 A.id.2 ?_).mono ?_
    · rw [Bool.and_eq_false_iff, Bool.and_eq_false_iff] at hm'
      rcases hm' with (h' | h') | h'
      · left; simpa using h'
      · right; left; simpa using h'
      · right; right; exact h'
    · rintro e w' ⟨rfl, h1⟩
      unfold addP
      rw [if_neg hm, if_neg hm]
      exact ⟨rfl, F, h.below h1, fun k hk => .inl hk, Chg.of_below _ h1⟩
set_option maxHeartbeats 6400000 in
set_option maxRecDepth 100000 in
theorem played_any {w : World} {a : Option Addr} {n c : Nat} {Q : List AskN} (h : AskRow w a n c Q) (hn : n ≤ 281474976710656) :
    Calls Tryz.prog 4 #[.slice a n c] w fun e w' => ∃ s F, e = .returned (ptrV s) ∧ Stm w' s F (playP Q 200).1 (playP Q 200).2 ∧ (∀ k, F k → w.heap.size ≤ k) ∧ Below w.heap.size w w' := by
  have HN := Lib.hid (stm_new w)
  have HR := Lib.hid h
  clear h
  go_enter Tryz.func4, Tryz.ntmps4
  go_wp2_with fail
  refine HN.out.mono ?_
  rintro e w1 ⟨s, F, rfl, h1, h2, h3⟩
  have H1 := Lib.hid (show ∃ F, Stm w1 s F (playP Q 0).1 (playP Q 0).2 ∧ (∀ k, F k → w.heap.size ≤ k) ∧ Below w.heap.size w w1 from ⟨F, h1, h3, h2⟩)
  clear h1 h2 h3 HN
  unfold ptrV
  go_wp2_with fail
  go_loopw [4] (fun i wr => ∃ k : Nat, (k ≤ n ∧ k ≤ 200) ∧ i = .int .i64 k ∧ Hid (∃ F, Stm wr s F (playP Q k).1 (playP Q k).2 ∧ (∀ k, F k → w.heap.size ≤ k) ∧ Below w.heap.size w wr)) (fun i _ => n - (intOf i).toNat)
  case atStart => exact ⟨0, ⟨Nat.zero_le _, Nat.zero_le _⟩, rfl, H1⟩
  case round =>
    obtain ⟨k, ⟨hk, hk2⟩, rfl, hI⟩ := hrel
    by_cases hlt : k < n ∧ k < 200
    · obtain ⟨hlt, hlt2⟩ := hlt
      obtain ⟨F, hS, hF, hB⟩ := hI.out
      obtain ⟨b, o, A, rfl, hA, hQ⟩ := (HR.out.below hB).get hlt
      have hlen := playP_len Q k
      have hsucc := playP_succ hQ
      have c0 := hA.c0
      have c1 := hA.c1
      have c2 := hA.c2
      have c3 := hA.c3
      have c6 := hA.c6
      have HEnd := Lib.hid (show ∀ w' F', Stm w' s F' (playP Q (k + 1)).1 (playP Q (k + 1)).2 → Fresh wr F F' → Chg F wr w' → ∃ F, Stm w' s F (playP Q (k + 1)).1 (playP Q (k + 1)).2 ∧ (∀ k, F k → w.heap.size ≤ k) ∧ Below w.heap.size w w' from fun w' F' h1 h2 h3 =>
        ⟨F', h1, fun j hj => by rcases h2 j hj with h' | h'; exact hF j h'; exact Nat.le_trans hB.size h', belowChg hB h3 hB.size fun j hj _ => hF j hj⟩)
      have j1 : (k : Int) < (n : Int) := by omega
      have j2 : decide ((k : Int) < 200) = true := decide_eq_true (by omega)
      have HK := Lib.hid (And.intro hlt hlt2)
      by_cases hk2' : A.k = 2
      · have e1 : (A.k == 2) = true := by simp [hk2']
        have hC := stm_del hS (by omega) hA.idb.1 hA.idb.2
        unfold ptrV at hC
        have HC := Lib.hid hC
        have hst : playP Q (k + 1) = ((playP Q k).1.filter fun e => !decide (e.1 = A.id), (playP Q k).2) := by rw [hsucc]; unfold stepP; rw [if_pos hk2']
        have HST := Lib.hid hst
        clear hC hst hS hF hB hA hQ hlen hsucc hI hk2'
        go_wp2_with fail
        refine HC.out.mono ?_
        rintro e w2 ⟨rfl, F', h1, h2, h3⟩
        have HN := Lib.hid (HEnd.out w2 F' (by rw [HST.out]; exact h1) h2 h3)
        clear h1 h2 h3 HEnd HC c0 c1 c2 c3 c6
        go_wp2_with fail
        go_roundw
        case rel => exact ⟨k + 1, ⟨by omega, by omega⟩, by go_num, HN⟩
        case measure => simp [intOf]; omega
      · have e1 : (A.k == 2) = false := by simp [hk2']
        by_cases hk3 : A.k = 3
        · have e2 : (A.k == 3) = true := by simp [hk3]
          have hC : Calls Tryz.prog 13 #[ptrV s, .agg #[.int .u64 A.id.1, .int .u64 A.id.2]] wr fun e w' => ∃ v, e = .returned v ∧ ∃ F', Stm w' s F' (playP Q k).1 (if lessN A.id (playP Q k).2 then (playP Q k).2 else A.id) ∧ Fresh wr F F' ∧ Chg F wr w' :=
            (stm_setLast hS hA.idb.1 hA.idb.2).mono fun e w' ⟨h1, h2, h3⟩ => ⟨_, h1, F, h2, fun j hj => .inl hj, h3⟩
          unfold ptrV at hC
          have HC := Lib.hid hC
          have hst : playP Q (k + 1) = ((playP Q k).1, if lessN A.id (playP Q k).2 then (playP Q k).2 else A.id) := by rw [hsucc]; unfold stepP; rw [if_neg hk2', if_pos hk3]
          have HST := Lib.hid hst
          clear hC hst hS hF hB hA hQ hlen hsucc hI hk2' hk3
          go_wp2_with fail
          refine HC.out.mono ?_
          rintro e w2 ⟨v, rfl, F', h1, h2, h3⟩
          have HN := Lib.hid (HEnd.out w2 F' (by rw [HST.out]; exact h1) h2 h3)
          clear h1 h2 h3 HEnd HC c0 c1 c2 c3 c6
          go_wp2_with fail
          go_roundw
          case rel => exact ⟨k + 1, ⟨by omega, by omega⟩, by go_num, HN⟩
          case measure => simp [intOf]; omega
        · have e2 : (A.k == 3) = false := by simp [hk3]
          by_cases hk5 : A.k = 5
          · have e3 : (A.k == 5) = true := by simp [hk5]
            have hC := stm_trim hS (by omega) hA.nb.1 hA.nb.2
            unfold ptrV at hC
            have HC := Lib.hid hC
            have hst : playP Q (k + 1) = ((playP Q k).1.drop (trimN (playP Q k).1.length A.N), (playP Q k).2) := by rw [hsucc]; unfold stepP; rw [if_neg hk2', if_neg hk3, if_pos hk5]
            have HST := Lib.hid hst
            clear hC hst hS hF hB hA hQ hlen hsucc hI hk2' hk3 hk5
            go_wp2_with fail
            refine HC.out.mono ?_
            rintro e w2 ⟨rfl, F', h1, h2, h3⟩
            have HN := Lib.hid (HEnd.out w2 F' (by rw [HST.out]; exact h1) h2 h3)
            clear h1 h2 h3 HEnd HC c0 c1 c2 c3 c6
            go_wp2_with fail
            go_roundw
            case rel => exact ⟨k + 1, ⟨by omega, by omega⟩, by go_num, HN⟩
            case measure => simp [intOf]; omega
          · have e3 : (A.k == 5) = false := by simp [hk5]
            have hC := stm_addAsk hS (by omega) hA.row (Nat.le_trans hA.nle (by decide)) hA.idb
            unfold ptrV at hC
            have HC := Lib.hid hC
            have hst : playP Q (k + 1) = addP ((playP Q k).1, (playP Q k).2) A := by rw [hsucc]; unfold stepP; rw [if_neg hk2', if_neg hk3, if_neg hk5]
            have HST := Lib.hid hst
            clear hC hst hS hF hB hA hQ hlen hsucc hI hk2' hk3 hk5
            go_wp2_with fail
            refine HC.out.mono ?_
            rintro e w2 ⟨rfl, F', h1, h2, h3⟩
            have HN := Lib.hid (HEnd.out w2 F' (by rw [HST.out]; exact h1) h2 h3)
            clear h1 h2 h3 HEnd HC c0 c1 c2 c3 c6
            go_wp2_with fail
            go_roundw
            case rel => exact ⟨k + 1, ⟨by omega, by omega⟩, by go_num, HN⟩
            case measure => simp [intOf]; omega
    · have HEnd := Lib.hid (show playP Q k = playP Q 200 by
        unfold playP
        rcases Nat.lt_or_ge k 200 with h' | h'
        · have : n ≤ k := by omega
          have hq := HR.out.1
          rw [List.take_of_length_le (by omega), List.take_of_length_le (by omega)]
        · rw [show k = 200 by omega])
      rcases Nat.lt_or_ge k n with h' | h'
      · have j1 : (k : Int) < (n : Int) := by omega
        have j2 : decide ((k : Int) < 200) = false := decide_eq_false (by omega)
        clear hlt
        go_wp2_with fail
        go_ret
        obtain ⟨F, h1, h2, h3⟩ := hI.out
        rw [HEnd.out] at h1
        exact ⟨s, F, rfl, h1, h2, h3⟩
      · obtain rfl : n = k := by omega
        clear hlt
        go_wp2_with fail
        go_ret
        obtain ⟨F, h1, h2, h3⟩ := hI.out
        rw [HEnd.out] at h1
        exact ⟨s, F, rfl, h1, h2, h3⟩
end Go.Proofs.YtmaemgihhipllaaGreatDoor.Sad
