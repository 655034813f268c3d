/- pack: next, ahead, seek. -/
import Derived.Test.YtcoepekoacpgnaaDoorPck9
namespace Go.Proofs.YtcoepekoacpgnaaDoor
set_option linter.unusedVariables false
set_option linter.unusedSimpArgs false
open Go.RowKit
theorem OKL.small {L : List ByteArray} (h : OKL L) {i : Nat} (hi : i < L.length) : L[i].size ≤ 65536 := h.each _ (List.getElem_mem hi)
theorem drop_length (L : List ByteArray) (i : Nat) : ((packL L).drop (offL L i)).length = sizeP L - offL L i := by rw [List.length_drop, packL_length]
/-- What an entry's first byte may be, at a piece's end. -/
theorem first_128 {L : List ByteArray} {i : Nat} (h : OKL L) (hi : i < L.length) (h128 : (((packL L).drop (offL L i)).getD 0 0).toNat = 128) : 5 ≤ sizeP L - offL L i := by
  have h1 := offL_succ hi
  have h2 := (offL_lt L (i + 1)).2
  have hs := h.small hi
  have he := entL_length L[i] (by omega)
  by_cases hl : 4 ≤ (entL L[i]).length
  · omega
  · exfalso
    rw [packL_drop, List.drop_eq_getElem_cons hi, bodyL_cons, entL, List.append_assoc, List.append_assoc] at h128
    cases hn : intS L[i] with
    | some n =>
      rw [headL_int hn] at h128
      have hw := wideI_cases n
      simp only [List.cons_append, List.getD_cons_zero, UInt8.toNat_ofNat'] at h128
      omega
    | none =>
      by_cases hsh : L[i].size < 128
      · rw [headL_short hn hsh] at h128
        simp only [List.cons_append, List.getD_cons_zero, UInt8.toNat_ofNat'] at h128
        omega
      · rw [entL, headL_long hn (by omega)] at hl
        simp at hl <;> omega
theorem read_row {w : World} {p g cap : Nat} {cur : Array Value} {L : List ByteArray} (h : PackRow w p g cap cur L) (hl : Laid w) {i : Nat} (hi : i < L.length) :
    Calls Tryd.prog 43 #[.slice (some ⟨g, offL L i, none⟩) (sizeP L - offL L i) (cap - offL L i)] w fun e w' => e = .returned (.tuple #[.string L[i], .int .i64 (headL L[i]).length, .bool true]) ∧ Below w.heap.size w w' := by
  have h1 := offL_succ hi
  have h2 := (offL_lt L (i + 1)).2
  have hs := h.ok.small hi
  have he := entL_length L[i] (by omega)
  have hle := h.le
  have hsz := h.ok.size
  have e : readV ((packL L).drop (offL L i)) = .tuple #[.string L[i], .int .i64 (headL L[i]).length, .bool true] := by
    unfold readV; rw [read_pack hi (by omega)]
  rw [← e]
  refine read_any g (offL L i) _ _ _ hl (drop_length L i) (.inr ⟨by omega, by omega, fun h8 => first_128 h.ok hi h8⟩) (by omega) ?_
  exact h.cells (offL L i) (by rw [List.take_length])
set_option maxHeartbeats 800000 in
set_option maxRecDepth 100000 in
theorem next_row {w : World} {p g cap : Nat} {cur : Array Value} {L : List ByteArray} (h : PackRow w p g cap cur L) (hl : Laid w) {i : Nat} (hi : i < L.length) :
    Calls Tryd.prog 49 #[.pointer (some ⟨p, 0, none⟩), .int .i64 (offL L i)] w fun e w' => e = .returned (.int .i64 (offL L (i + 1))) ∧ Below w.heap.size w w' := by
  have c0 := h.cell0
  have HR := Lib.hid (read_row h hl hi)
  have h1 := offL_succ hi
  have h2 := (offL_lt L (i + 1)).2
  have hs := h.ok.small hi
  have he := entL_length L[i] (by omega)
  have hhd := headL_length L[i]
  have hle := h.le
  have hsz := h.ok.size
  have hcm := h.capm
  unfold maxLen at hcm
  have hbk := backL_length (headL L[i]).length (by omega)
  have hent : (entL L[i]).length = (headL L[i]).length + (backL (headL L[i]).length).length := by unfold entL; rw [List.length_append]
  obtain ⟨x, hx⟩ : ∃ x, L[i] = x := ⟨_, rfl⟩
  rw [hx] at h1 hs he hhd hbk hent HR
  obtain ⟨nh, hnh⟩ : ∃ nh, (headL x).length = nh := ⟨_, rfl⟩
  rw [hnh] at hhd hbk hent HR
  have HB := Lib.hid (fun w => back_any nh (by omega) w)
  obtain ⟨nb, hnb⟩ : ∃ nb, (backL nh).length = nb := ⟨_, rfl⟩
  rw [hnb] at hbk hent
  have HBn := Lib.hid hnb
  obtain ⟨k, hk⟩ : ∃ k, offL L i = k := ⟨_, rfl⟩
  obtain ⟨k', hk'⟩ : ∃ k', offL L (i + 1) = k' := ⟨_, rfl⟩
  obtain ⟨sz, hszz⟩ : ∃ sz, sizeP L = sz := ⟨_, rfl⟩
  rw [hk, hk'] at h1
  rw [hk', hszz] at h2
  rw [hszz] at hle hsz c0
  rw [hk, hszz] at HR
  rw [hk, hk']
  have hkc : ¬ cap = k := by omega
  have hkle : k ≤ sz := by omega
  have hk'' : k' = k + nh + nb := by omega
  clear h hl hx hnh hk hk' hszz h1 hent hnb
  subst hk''
  go_enter Tryd.func49, Tryd.ntmps49
  go_wp2_with fail
  refine HR.out.mono ?_
  rintro e w1 ⟨rfl, b1⟩
  have B1 := Lib.hid b1
  clear b1 HR
  go_wp2_with fail
  refine (HB.out _).mono ?_
  rintro e w2 ⟨v2, rfl, s2, b2⟩
  rw [HBn.out] at s2
  obtain ⟨a2, c2, rfl, _⟩ := s2.arg
  have B2 := Lib.hid (B1.out.trans (b2.mono B1.out.size))
  clear s2 b2 HB
  go_wp2_with fail
  go_ret
  exact ⟨by congr 2, B2.out⟩
theorem ahead_byte {L : List ByteArray} (h : OKL L) {i : Nat} (hi : i < L.length) : ∃ nh k, nh = (headL L[i]).length ∧ k ≤ 2 ∧ nh < 128 ^ (k + 1) ∧ (k = 0 ∨ 128 ^ k ≤ nh) ∧ offL L (i + 1) = offL L i + nh + (k + 1) ∧
    ∀ j, j ≤ k → ∃ hlt : offL L (i + 1) - 1 - j < (packL L).length, (packL L)[offL L (i + 1) - 1 - j].toNat = nh / 128 ^ j % 128 + if j = k then 0 else 128 := by
  have h1 := offL_succ hi
  have h2 := (offL_lt L (i + 1)).2
  have hs := h.small hi
  have hhd := headL_length L[i]
  obtain ⟨k, k5, hk1, hk2⟩ := groups (headL L[i]).length (by omega)
  have hk3 : k ≤ 2 := by
    rcases Nat.lt_or_ge k 3 with h | h
    · omega
    · have := Nat.pow_le_pow_right (n := 128) (by omega) h
      omega
  have hbl : (backL (headL L[i]).length).length = k + 1 := by rw [backL_eq hk1 hk2 k5]; simp
  have hent : (entL L[i]).length = (headL L[i]).length + (k + 1) := by unfold entL; rw [List.length_append, hbl]
  refine ⟨_, k, rfl, hk3, hk1, hk2, by omega, fun j hj => ?_⟩
  have hlt : offL L (i + 1) - 1 - j < (packL L).length := by rw [packL_length]; omega
  refine ⟨hlt, ?_⟩
  have hd : ((packL L).drop (offL L i))[(headL L[i]).length + (k - j)]? = some (UInt8.ofNat ((headL L[i]).length / 128 ^ j % 128 + if j = k then 0 else 128)) := by
    rw [packL_drop, List.drop_eq_getElem_cons hi, bodyL_cons, entL, List.append_assoc, List.append_assoc, List.getElem?_append_right (by omega), Nat.add_sub_cancel_left, List.getElem?_append_left (by omega)]
    exact back_get hk1 hk2 k5 hj
  rw [List.getElem?_drop, show offL L i + ((headL L[i]).length + (k - j)) = offL L (i + 1) - 1 - j by omega, List.getElem?_eq_getElem hlt] at hd
  have e := Option.some.inj hd
  rw [e, UInt8.toNat_ofNat']
  have := Nat.mod_lt ((headL L[i]).length / 128 ^ j) (show 0 < 128 by omega)
  split <;> omega
set_option maxHeartbeats 1600000 in
set_option maxRecDepth 100000 in
theorem ahead_row {w : World} {p g cap : Nat} {cur : Array Value} {L : List ByteArray} (h : PackRow w p g cap cur L) {i : Nat} (hi : i < L.length) :
    Calls Tryd.prog 81 #[.pointer (some ⟨p, 0, none⟩), .int .i64 (offL L (i + 1))] w fun e w' => e = .returned (.int .i64 (offL L i)) ∧ Below w.heap.size w w' := by
  obtain ⟨nh, k, hnh, hk2, hk3, hk4, hoff, hby⟩ := ahead_byte h.ok hi
  have c0 := h.cell0
  have h2 := (offL_lt L (i + 1)).2
  have hle := h.le
  have hsz := h.ok.size
  have hcm := h.capm
  unfold maxLen at hcm
  have HBy := Lib.hid (show ∀ j, j ≤ k → w.cell? ⟨g, offL L (i + 1) - 1 - j, none⟩ = some (.int .u8 ((nh / 128 ^ j % 128 + if j = k then 0 else 128 : Nat) : Int)) from fun j hj => by
    obtain ⟨h1, h2⟩ := hby j hj
    rw [h.cell h1, h2])
  obtain ⟨a, ha⟩ : ∃ a, offL L (i + 1) = a := ⟨_, rfl⟩
  obtain ⟨b, hb⟩ : ∃ b, offL L i = b := ⟨_, rfl⟩
  obtain ⟨sz, hszz⟩ : ∃ sz, sizeP L = sz := ⟨_, rfl⟩
  rw [ha, hb] at hoff
  rw [ha] at HBy
  rw [ha, hszz] at h2
  rw [hszz] at c0 hle hsz
  rw [ha, hb]
  clear h hnh hby ha hb hszz
  have HO := Lib.hid hoff
  have hka : k + 1 ≤ a := by omega
  clear hoff
  go_enter Tryd.func81, Tryd.ntmps81
  go_wp2_with fail
  go_loopw [1, 5, 6] (fun i m s wr => ∃ j : Nat, j ≤ k ∧ i = .int .i64 ((a - 1 - j : Nat) : Int) ∧ m = .int .i64 ((nh % 128 ^ j : Nat) : Int) ∧ s = .int .i64 ((7 * j : Nat) : Int) ∧ ∃ d, wr = w.drewN d) (fun i _ _ _ => (intOf i).toNat)
  case atStart => exact ⟨0, by omega, by go_num, by simp [Nat.mod_one], rfl, 0, rfl⟩
  case round =>
    obtain ⟨j, hj, rfl, rfl, rfl, d, rfl⟩ := hrel
    have hcell := HBy.out j hj
    have hdl := Nat.mod_lt (nh / 128 ^ j) (show 0 < 128 by omega)
    obtain ⟨c, hc⟩ : ∃ c, nh / 128 ^ j % 128 = c := ⟨_, rfl⟩
    rw [hc] at hcell hdl
    obtain ⟨y, hy⟩ : ∃ y, (c + if j = k then 0 else 128) = y := ⟨_, rfl⟩
    rw [hy] at hcell
    have hand : bits .and .u8 (y : Int) 127 = (c : Int) := by
      rw [show (127 : Int) = ((127 : Nat) : Int) from rfl, u8_and_nat y 127 (by split at hy <;> omega) (by omega), nat_mask7]
      congr 1; split at hy <;> omega
    obtain ⟨u, hu⟩ : ∃ u, nh % 128 ^ j = u := ⟨_, rfl⟩
    rw [hu]
    obtain ⟨x, hx⟩ : ∃ x, a - 1 - j = x := ⟨_, rfl⟩
    rw [hx] at hcell ⊢
    have hxs : x < sz := by omega
    have hj2 : j = 0 ∨ j = 1 ∨ j = 2 := by omega
    obtain ⟨z, hz⟩ : ∃ z, nh % 128 ^ (j + 1) = z := ⟨_, rfl⟩
    have hzu : z = u + 128 ^ j * c := by rw [← hz, Nat.pow_succ, Nat.mod_mul, hu, hc]
    have hul : u < 128 ^ j := by rw [← hu]; exact Nat.mod_lt _ (Nat.pow_pos (by omega))
    have hor : bits .or .i64 (u : Int) ((c : Int) * ((128 ^ j : Nat) : Int)) = (z : Int) := by
      have hb : c * 128 ^ j < 9223372036854775808 := by
        have : 128 ^ j ≤ 128 ^ 2 := Nat.pow_le_pow_right (by omega) (by omega)
        have := Nat.mul_le_mul (Nat.le_of_lt hdl) this
        omega
      have hub : u < 9223372036854775808 := by
        have : 128 ^ j ≤ 128 ^ 2 := Nat.pow_le_pow_right (by omega) (by omega)
        omega
      have e := i64_or_nat u (c * 128 ^ j) hub hb
      rw [Int.natCast_mul] at e
      rw [e]
      have h := Nat.shiftLeft_add_eq_or_of_lt (i := 7 * j) (b := u) (by rw [Nat.pow_mul]; exact hul) c
      rw [Nat.shiftLeft_eq, Nat.pow_mul] at h
      simp only [Nat.reducePow] at h
      rw [Nat.or_comm, ← h, hzu, Nat.mul_comm (128 ^ j) c, Nat.add_comm]
    have HX := Lib.hid (And.intro hx (And.intro hz hy))
    by_cases hjk : j = k
    · have hlast : (x : Int) - (z : Int) = (b : Int) := by
        have := HO.out
        rw [hjk] at hx hz
        rw [Nat.mod_eq_of_lt hk3] at hz
        omega
      have hzx : z ≤ x := by omega
      have HL := Lib.hid hlast
      have hd : decide ((y : Int) < 128) = true := by rw [if_pos hjk] at hy; simp; omega
      clear hlast hx hz hzu hy hul hc hu hjk
      rcases hj2 with rfl | rfl | rfl
      · rw [show ((7 * 0 : Nat) : Int) = 0 from rfl]
        simp only [Nat.reducePow, Int.cast_ofNat_Int, Int.natCast_one, Int.mul_one] at hor
        go_wp2_with fail
        go_ret
        exact ⟨ret1 (congrArg (Value.int .i64) HL.out), belowN (Below.refl _ _) d⟩
      · rw [show ((7 * 1 : Nat) : Int) = 7 from rfl]
        simp only [Nat.reducePow, Int.cast_ofNat_Int, Int.natCast_one, Int.mul_one] at hor
        go_wp2_with fail
        go_ret
        exact ⟨ret1 (congrArg (Value.int .i64) HL.out), belowN (Below.refl _ _) d⟩
      · rw [show ((7 * 2 : Nat) : Int) = 14 from rfl]
        simp only [Nat.reducePow, Int.cast_ofNat_Int, Int.natCast_one, Int.mul_one] at hor
        go_wp2_with fail
        go_ret
        exact ⟨ret1 (congrArg (Value.int .i64) HL.out), belowN (Below.refl _ _) d⟩
    · have hj1 : j + 1 ≤ k := by omega
      have hd : decide ((y : Int) < 128) = false := by rw [if_neg hjk] at hy; simp; omega
      have HN := Lib.hid (show ((a - 1 - (j + 1) : Nat) : Int) = (x : Int) - 1 by omega)
      have hx1 : 1 ≤ x := by omega
      clear hx hzu hy hul hc hu hjk
      rcases hj2 with rfl | rfl | rfl
      · rw [show ((7 * 0 : Nat) : Int) = 0 from rfl]
        simp only [Nat.reducePow, Int.cast_ofNat_Int, Int.natCast_one, Int.mul_one] at hor
        go_wp2_with fail
        go_roundw
        case rel => exact ⟨1, hj1, by rw [HN.out], by rw [HX.out.2.1], rfl, d, rfl⟩
        case measure => simp [intOf]; omega
      · rw [show ((7 * 1 : Nat) : Int) = 7 from rfl]
        simp only [Nat.reducePow, Int.cast_ofNat_Int, Int.natCast_one, Int.mul_one] at hor
        go_wp2_with fail
        go_roundw
        case rel => exact ⟨2, hj1, by rw [HN.out], by rw [HX.out.2.1], rfl, d, rfl⟩
        case measure => simp [intOf]; omega
      · omega
/-- The walk over so many entries. -/
theorem walk_any (fid : FuncId) (p : Nat) (pos : Nat → Nat) (n : Nat) (hn : n ≤ 1048576) {w : World} (hce : ∀ (w : World) (args : Array Value), (callFunc fid args).run Tryd.prog w = .ok (.enter fid args) w)
    (hstep : ∀ j, j < n → ∀ w', Below w.heap.size w w' → Calls Tryd.prog fid #[.pointer (some ⟨p, 0, none⟩), .int .i64 (pos j)] w' fun e w'' => e = .returned (.int .i64 (pos (j + 1))) ∧ Below w'.heap.size w' w'') :
    Calls Tryd.prog 80 #[.int .i64 (pos 0), .int .i64 n, .func (.func fid) #[.pointer (some ⟨p, 0, none⟩)] #[]] w fun e w' => e = .returned (.int .i64 (pos n)) ∧ Below w.heap.size w w' := by
  have HS := Lib.hid hstep
  clear hstep
  go_enter Tryd.func80, Tryd.ntmps80
  go_wp2_with fail
  go_loopw [0, 8] (fun x i wr => ∃ j : Nat, j ≤ n ∧ i = .int .i64 j ∧ x = .int .i64 (pos j) ∧ Hid (Below w.heap.size w wr)) (fun _ i _ => n - (intOf i).toNat)
  case atStart => exact ⟨0, by omega, rfl, rfl, Lib.hid (Below.refl _ _)⟩
  case round =>
    obtain ⟨j, hj, rfl, rfl, hB⟩ := hrel
    by_cases hlt : j < n
    · have HS1 := Lib.hid (HS.out j hlt wr hB.out)
      go_wp2_with fail
      refine HS1.out.mono ?_
      rintro e w2 ⟨rfl, b2⟩
      have B2 := Lib.hid (hB.out.trans (b2.mono hB.out.size))
      clear b2
      go_wp2_with fail
      go_roundw
      case rel => exact ⟨j + 1, by omega, by go_num, rfl, B2⟩
      case measure => simp [intOf]; omega
    · obtain rfl : j = n := by omega
      go_wp2_with fail
      go_ret
      exact ⟨rfl, hB.out⟩
set_option maxHeartbeats 800000 in
set_option maxRecDepth 100000 in
theorem seek_row {w : World} {p g cap : Nat} {cur : Array Value} {L : List ByteArray} (h : PackRow w p g cap cur L) (hl : Laid w) {i : Nat} (hi : i ≤ L.length) :
    Calls Tryd.prog 47 #[.pointer (some ⟨p, 0, none⟩), .int .i64 i] w fun e w' => e = .returned (.int .i64 (offL L i)) ∧ Below w.heap.size w w' := by
  have c0 := h.cell0
  have HL := Lib.hid (plen_row h)
  have hmany := h.ok.many
  have hle := h.le
  have hsz := h.ok.size
  have hcm := h.capm
  unfold maxLen at hcm
  have hpl := heap_lt h.head
  have hgl := h.row.lt
  have hchg : ∀ w', Below w.heap.size w w' → PackRow w' p g cap cur L := fun w' hb => h.chg (Chg.of_below (fun _ => False) hb) id id
  have hce : ∀ (w : World) (args : Array Value), (callFunc 80 args).run Tryd.prog w = .ok (.enter 80 args) w := fun _ _ => rfl
  have HNx := Lib.hid (walk_any 49 p (offL L) i (by omega) (w := w) (fun _ _ => rfl) (fun j hj w' hb => next_row (hchg w' hb) (hl.below hb) (by omega)))
  have HAh := Lib.hid (walk_any 81 p (fun j => offL L (L.length - j)) (L.length - i) (by omega) (w := w) (fun _ _ => rfl) (fun j hj w' hb => by
    have := ahead_row (hchg w' hb) (i := L.length - j - 1) (by omega)
    rw [show L.length - j - 1 + 1 = L.length - j by omega] at this
    exact this))
  simp only [Nat.sub_zero] at HAh
  rw [show L.length - (L.length - i) = i by omega, offL_all (Nat.le_refl _)] at HAh
  rw [offL_zero] at HNx
  have h9 := sizeP_pos L
  rw [show ((sizeP L - 1 : Nat) : Int) = (sizeP L : Int) - 1 by omega, show ((L.length - i : Nat) : Int) = (L.length : Int) - (i : Int) by omega] at HAh
  generalize sizeP L = sz at *
  generalize offL L i = k at *
  clear h hchg hl
  rcases Bool.eq_false_or_eq_true (decide ((L.length : Int) / 2 < (i : Int))) with hd | hd
  · go_enter Tryd.func47, Tryd.ntmps47
    go_wp2_with fail
    refine HL.out.mono ?_
    rintro e w1 ⟨rfl, rfl⟩
    go_wp2_with fail
    refine HAh.out.mono ?_
    rintro e w1 ⟨rfl, b1⟩
    have B1 := Lib.hid b1
    clear b1
    go_wp2_with fail
    go_ret
    exact ⟨rfl, B1.out⟩
  · go_enter Tryd.func47, Tryd.ntmps47
    go_wp2_with fail
    refine HL.out.mono ?_
    rintro e w1 ⟨rfl, rfl⟩
    go_wp2_with fail
    refine HNx.out.mono ?_
    rintro e w1 ⟨rfl, b1⟩
    have B1 := Lib.hid b1
    clear b1
    go_wp2_with fail
    go_ret
    exact ⟨rfl, B1.out⟩
end Go.Proofs.YtcoepekoacpgnaaDoor
