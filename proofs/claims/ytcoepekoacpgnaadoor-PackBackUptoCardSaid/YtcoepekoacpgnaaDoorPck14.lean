/- pack: Set, Delete, and the other questions, as objects. -/
import Derived.Test.YtcoepekoacpgnaaDoorPck13
namespace Go.Proofs.YtcoepekoacpgnaaDoor
set_option linter.unusedVariables false
set_option linter.unusedSimpArgs false
open Go.RowKit
def setP (L : List ByteArray) (a : Int) (s : ByteArray) : Int × List ByteArray :=
  if placeB L.length a = false then (6, L) else if 65536 < s.size then (3, L) else
    if 1073741824 + (entL (L.getD (placeN L.length a).toNat ByteArray.empty)).length < sizeP L + (entL s).length then (3, L) else (0, L.take (placeN L.length a).toNat ++ [s] ++ L.drop ((placeN L.length a).toNat + 1))
theorem ok_set {L : List ByteArray} (h : OKL L) {i : Nat} (hi : i < L.length) {s : ByteArray} (hs : s.size ≤ 65536) (hz : sizeP L + (entL s).length ≤ 1073741824 + (entL L[i]).length) : OKL (L.take i ++ [s] ++ L.drop (i + 1)) := by
  have h1 := sizeP_cut (L := L) (M := [s]) (show i ≤ i + 1 by omega) (show i + 1 ≤ L.length by omega)
  have h2 : bodyL [s] = entL s := by rw [bodyL_cons, bodyL_nil, List.append_nil]
  have h3 := offL_succ hi
  rw [h2] at h1
  have hm := h.many
  refine ⟨by omega, by simp; omega, fun x hx => ?_⟩
  simp only [List.mem_append, List.mem_singleton] at hx
  rcases hx with (hx | rfl) | hx
  · exact h.each _ (List.mem_of_mem_take hx)
  · exact hs
  · exact h.each _ (List.mem_of_mem_drop hx)
set_option maxHeartbeats 1600000 in
set_option maxRecDepth 100000 in
theorem packSet {w : World} {p : Nat} {F : Nat → Prop} {L : List ByteArray} (h : PackF w p F L) (hl : Laid w) (a : Int) (ha : -9223372036854775808 ≤ a ∧ a ≤ 9223372036854775807) (s : ByteArray) (hs : s.size ≤ 9000000000000000000) :
    Calls Tryd.prog 24 #[.pointer (some ⟨p, 0, none⟩), .int .i64 a, .string s] w fun e w' => e = .returned (.int .i64 (setP L a s).1) ∧ (∃ F', PackF w' p F' (setP L a s).2 ∧ Fresh w F F') ∧ Chg F w w' := by
  obtain ⟨g, cap, cur, hr, hF⟩ := h
  have HFst := Lib.hid (show Chg F w w ∧ ∃ F', PackF w p F' L ∧ Fresh w F F' from ⟨Chg.refl _ _, F, ⟨g, cap, cur, hr, hF⟩, fun k hk => .inl hk⟩)
  have HG := Lib.hid (gone_row hr.cell0)
  have HP := Lib.hid (place_row hr a ha)
  have hmany := hr.ok.many
  have hsz := hr.ok.size
  cases hb : placeB L.length a with
  | false =>
    have hp : setP L a s = (6, L) := by unfold setP; rw [hb]; rfl
    rw [hp]
    rw [hb] at HP
    clear hr hF hl hp hb
    go_enter Tryd.func24, Tryd.ntmps24
    go_wp2_with fail
    refine HG.out.mono ?_
    rintro e w' ⟨rfl, rfl⟩
    go_wp2_with fail
    refine HP.out.mono ?_
    rintro e w' ⟨rfl, rfl⟩
    go_wp2_with fail
    go_ret
    exact ⟨rfl, HFst.out.2, HFst.out.1⟩
  | true =>
    obtain ⟨i, hi, hpi⟩ := placeB_lt hb
    have hgd : L.getD i ByteArray.empty = L[i] := by simp [List.getD, hi]
    rw [hb, hpi] at HP
    have hpf : setP L a s = if 65536 < s.size then (3, L) else if 1073741824 + (entL L[i]).length < sizeP L + (entL s).length then (3, L) else (0, L.take i ++ [s] ++ L.drop (i + 1)) := by
      unfold setP; rw [hb, hpi, Int.toNat_natCast, hgd]; rfl
    by_cases h3 : 65536 < s.size
    · have hp : setP L a s = (3, L) := by rw [hpf, if_pos h3]
      rw [hp]
      have hd3 : decide ((65536 : Int) < (s.size : Int)) = true := by simp; omega
      clear hr hF hl hp hpf hb hpi
      go_enter Tryd.func24, Tryd.ntmps24
      go_wp2_with fail
      refine HG.out.mono ?_
      rintro e w' ⟨rfl, rfl⟩
      go_wp2_with fail
      refine HP.out.mono ?_
      rintro e w' ⟨rfl, rfl⟩
      go_wp2_with fail
      go_ret
      exact ⟨rfl, HFst.out.2, HFst.out.1⟩
    · have hd3 : decide ((65536 : Int) < (s.size : Int)) = false := by simp; omega
      have hchg : ∀ w', Below w.heap.size w w' → PackRow w' p g cap cur L := fun w' hb => hr.chg (Chg.of_below (fun _ => False) hb) id id
      have HE := Lib.hid (fun w' (hb : Below w.heap.size w w') => entry_any s (by omega) (hl.below hb))
      have HSk := Lib.hid (seek_row hr hl (i := i) (by omega))
      have HNx := Lib.hid (fun w' (hb : Below w.heap.size w w') => next_row (hchg w' hb) (hl.below hb) hi)
      have c0 := hr.cell0
      have he := entL_length s (by omega)
      have hsm := hr.ok.small hi
      have hei := entL_length L[i] (by omega)
      have hle := hr.le
      have hoff := offL_succ hi
      have hofl := (offL_lt L (i + 1)).2
      have hb1 : bodyL [s] = entL s := by rw [bodyL_cons, bodyL_nil, List.append_nil]
      obtain ⟨ne, hne⟩ : ∃ ne, (entL s).length = ne := ⟨_, rfl⟩
      rw [hne] at HE he hpf
      have hpl := heap_lt hr.head
      have HFst2 := Lib.hid (show ∀ w', Below w.heap.size w w' → Chg F w w' ∧ ∃ F', PackF w' p F' L ∧ Fresh w F F' from fun w' hb => ⟨Chg.of_below _ hb, F, ⟨g, cap, cur, hchg w' hb, hF⟩, fun k hk => .inl hk⟩)
      by_cases h5 : 1073741824 + (entL L[i]).length < sizeP L + ne
      · have hp : setP L a s = (3, L) := by rw [hpf, if_neg h3, if_pos h5]
        rw [hp]
        have hd5 : decide ((1073741824 : Int) < (sizeP L : Int) - ((offL L (i + 1) : Int) - (offL L i : Int)) + (ne : Int)) = true := by simp; omega
        clear hr hF hl hp hpf hb hpi HFst hne hchg hgd h5
        generalize hk0 : offL L i = k at *
        generalize hk1 : offL L (i + 1) = k' at *
        generalize sizeP L = sz at *
        clear hk0 hk1
        have hkk : k ≤ k' := by omega
        have hoff' : k' ≤ k + 65550 := by omega
        clear hoff hei
        go_enter Tryd.func24, Tryd.ntmps24
        go_wp2_with fail
        refine HG.out.mono ?_
        rintro e w' ⟨rfl, rfl⟩
        go_wp2_with fail
        refine HP.out.mono ?_
        rintro e w' ⟨rfl, rfl⟩
        go_wp2_with fail
        refine HSk.out.mono ?_
        rintro e w1 ⟨rfl, b1⟩
        have B1 := Lib.hid b1
        clear b1
        go_wp2_with fail
        refine (HE.out _ B1.out).mono ?_
        rintro e w2 ⟨v1, rfl, s1, b2⟩
        obtain ⟨a1, cp1, rfl, _⟩ := s1.arg
        have B2 := Lib.hid (B1.out.trans (b2.mono B1.out.size))
        clear s1 b2 HE
        go_wp2_with fail
        refine (HNx.out _ B2.out).mono ?_
        rintro e w3 ⟨rfl, b3⟩
        have B3 := Lib.hid (B2.out.trans (b3.mono B2.out.size))
        have c03 := (B3.out.cell (p := ⟨p, 0, none⟩) hpl).trans c0
        clear b3
        go_wp2_with fail
        go_ret
        exact ⟨rfl, (HFst2.out _ B3.out).2, (HFst2.out _ B3.out).1⟩
      · have hp : setP L a s = (0, L.take i ++ [s] ++ L.drop (i + 1)) := by rw [hpf, if_neg h3, if_neg h5]
        rw [hp]
        have hd5 : decide ((1073741824 : Int) < (sizeP L : Int) - ((offL L (i + 1) : Int) - (offL L i : Int)) + (ne : Int)) = false := by simp; omega
        have okk := ok_set hr.ok hi (s := s) (by omega) (by rw [hne]; omega)
        have HCh := Lib.hid (fun w' (hb : Below w.heap.size w w') => change_row (hchg w' hb) i (i + 1) (by omega) (by omega) [s] okk)
        have HFin := Lib.hid (show ∀ w' w'' , Below w.heap.size w w' → (∃ cap' cur', PackRow w'' p w'.heap.size cap' cur' (L.take i ++ [s] ++ L.drop (i + 1))) → Chg (fun k => k = p) w' w'' → (∃ F', PackF w'' p F' (L.take i ++ [s] ++ L.drop (i + 1)) ∧ Fresh w F F') ∧ Chg F w w'' from fun w' w'' hb ⟨cap', cur', hr'⟩ hc =>
          ⟨⟨fun k => k = p ∨ k = w'.heap.size, ⟨_, cap', cur', hr', fun k => Iff.rfl⟩, fun k hk => hk.imp (fun e => (hF k).2 (.inl e)) fun e => by have := hb.size; omega⟩,
            (Chg.of_below F hb).trans hc fun k hk _ => (hF k).2 (.inl hk)⟩)
        have HO := Lib.hid (And.intro hb1 hne)
        have HTl := Lib.hid (show (L.take i ++ [s] ++ L.drop (i + 1)).length = L.length by simp; omega)
        clear hr hF hl hp hpf hb hpi HFst hne hchg hgd h5 okk hb1
        generalize hk0 : offL L i = k at *
        generalize hk1 : offL L (i + 1) = k' at *
        generalize sizeP L = sz at *
        clear hk0 hk1
        have hkk : k ≤ k' := by omega
        have hoff' : k' ≤ k + 65550 := by omega
        clear hoff hei
        go_enter Tryd.func24, Tryd.ntmps24
        go_wp2_with fail
        refine HG.out.mono ?_
        rintro e w' ⟨rfl, rfl⟩
        go_wp2_with fail
        refine HP.out.mono ?_
        rintro e w' ⟨rfl, rfl⟩
        go_wp2_with fail
        refine HSk.out.mono ?_
        rintro e w1 ⟨rfl, b1⟩
        have B1 := Lib.hid b1
        clear b1
        go_wp2_with fail
        refine (HE.out _ B1.out).mono ?_
        rintro e w2 ⟨v1, rfl, s1, b2⟩
        obtain ⟨a1, cp1, rfl, hargs⟩ := s1.arg
        have B2 := Lib.hid (B1.out.trans (b2.mono B1.out.size))
        have S1 := Lib.hid s1
        have hcp1 := hargs.1
        clear s1 b2 HE hargs
        go_wp2_with fail
        refine (HNx.out _ B2.out).mono ?_
        rintro e w3 ⟨rfl, b3⟩
        have B3 := Lib.hid (B2.out.trans (b3.mono B2.out.size))
        have c03 := (B3.out.cell (p := ⟨p, 0, none⟩) hpl).trans c0
        have HC2 := Lib.hid (HCh.out w3 B3.out a1 ne cp1 hcp1 (by rw [HO.out.1, HO.out.2]) (by
          obtain ⟨b, o, e, hc⟩ := (S1.out.below b3).arg_bytes (by omega)
          cases e
          exact .inr ⟨b, o, rfl, by rw [HO.out.1]; exact hc⟩) 0 (by rw [HTl.out]; simp))
        clear b3
        go_wp2_with fail
        refine HC2.out.mono ?_
        rintro e w4 ⟨rfl, hr3, c3⟩
        have HF3 := Lib.hid (HFin.out w3 w4 B3.out hr3 c3)
        clear hr3 c3
        go_wp2_with fail
        go_ret
        exact ⟨rfl, HF3.out.1, HF3.out.2⟩
def delP (L : List ByteArray) (a n : Int) : Int × List ByteArray :=
  if a < 0 ∨ (L.length : Int) < a ∨ n < 0 ∨ (L.length : Int) - a < n then (1, L) else (0, L.take a.toNat ++ L.drop (a.toNat + n.toNat))
theorem ok_del {L : List ByteArray} (h : OKL L) {i j : Nat} (hij : i ≤ j) (hj : j ≤ L.length) : OKL (L.take i ++ [] ++ L.drop j) := by
  have h1 := sizeP_cut (L := L) (M := []) hij hj
  have h3 := offL_mono (L := L) hij
  rw [bodyL_nil, List.length_nil] at h1
  have hz := h.size
  have hm := h.many
  refine ⟨by omega, by simp; omega, fun x hx => ?_⟩
  simp only [List.append_nil, List.mem_append] at hx
  rcases hx with hx | hx
  · exact h.each _ (List.mem_of_mem_take hx)
  · exact h.each _ (List.mem_of_mem_drop hx)
set_option maxHeartbeats 1600000 in
set_option maxRecDepth 100000 in
theorem packDelete {w : World} {p : Nat} {F : Nat → Prop} {L : List ByteArray} (h : PackF w p F L) (hl : Laid w) (a n : Int) (ha : -9223372036854775808 ≤ a ∧ a ≤ 9223372036854775807) (hn : -9223372036854775808 ≤ n ∧ n ≤ 9223372036854775807) :
    Calls Tryd.prog 22 #[.pointer (some ⟨p, 0, none⟩), .int .i64 a, .int .i64 n] w fun e w' => e = .returned (.int .i64 (delP L a n).1) ∧ (∃ F', PackF w' p F' (delP L a n).2 ∧ Fresh w F F') ∧ Chg F w w' := by
  obtain ⟨g, cap, cur, hr, hF⟩ := h
  have HFst := Lib.hid (show Chg F w w ∧ ∃ F', PackF w p F' L ∧ Fresh w F F' from ⟨Chg.refl _ _, F, ⟨g, cap, cur, hr, hF⟩, fun k hk => .inl hk⟩)
  have HG := Lib.hid (gone_row hr.cell0)
  have HL := Lib.hid (plen_row hr)
  have hmany := hr.ok.many
  by_cases h1 : a < 0 ∨ (L.length : Int) < a ∨ n < 0 ∨ (L.length : Int) - a < n
  · have hp : delP L a n = (1, L) := by unfold delP; rw [if_pos h1]
    rw [hp]
    clear hr hF hl hp
    by_cases h0 : a < 0
    · have hd : decide (a < 0) = true := by simp; omega
      clear h1
      go_enter Tryd.func22, Tryd.ntmps22
      go_wp2_with fail
      refine HG.out.mono ?_
      rintro e w' ⟨rfl, rfl⟩
      go_wp2_with fail
      go_ret
      exact ⟨rfl, HFst.out.2, HFst.out.1⟩
    · have hd : decide (a < 0) = false := by simp; omega
      by_cases h2 : (L.length : Int) < a
      · have hd2 : decide ((L.length : Int) < a) = true := by simp; omega
        clear h1
        go_enter Tryd.func22, Tryd.ntmps22
        go_wp2_with fail
        refine HG.out.mono ?_
        rintro e w' ⟨rfl, rfl⟩
        go_wp2_with fail
        refine HL.out.mono ?_
        rintro e w' ⟨rfl, rfl⟩
        go_wp2_with fail
        go_ret
        exact ⟨rfl, HFst.out.2, HFst.out.1⟩
      · have hd2 : decide ((L.length : Int) < a) = false := by simp; omega
        by_cases h3 : n < 0
        · have hd3 : decide (n < 0) = true := by simp; omega
          clear h1
          go_enter Tryd.func22, Tryd.ntmps22
          go_wp2_with fail
          refine HG.out.mono ?_
          rintro e w' ⟨rfl, rfl⟩
          go_wp2_with fail
          refine HL.out.mono ?_
          rintro e w' ⟨rfl, rfl⟩
          go_wp2_with fail
          go_ret
          exact ⟨rfl, HFst.out.2, HFst.out.1⟩
        · have hd3 : decide (n < 0) = false := by simp; omega
          have hd4 : decide ((L.length : Int) - a < n) = true := by simp; omega
          clear h1
          go_enter Tryd.func22, Tryd.ntmps22
          go_wp2_with fail
          refine HG.out.mono ?_
          rintro e w' ⟨rfl, rfl⟩
          go_wp2_with fail
          refine HL.out.mono ?_
          rintro e w' ⟨rfl, rfl⟩
          go_wp2_with fail
          refine HL.out.mono ?_
          rintro e w' ⟨rfl, rfl⟩
          go_wp2_with fail
          go_ret
          exact ⟨rfl, HFst.out.2, HFst.out.1⟩
  · obtain ⟨i, rfl⟩ : ∃ i : Nat, a = (i : Int) := ⟨a.toNat, by omega⟩
    obtain ⟨m, rfl⟩ : ∃ m : Nat, n = (m : Int) := ⟨n.toNat, by omega⟩
    have hil : i ≤ L.length := by omega
    have him : i + m ≤ L.length := by omega
    have hp : delP L i m = (0, L.take i ++ [] ++ L.drop (i + m)) := by unfold delP; rw [if_neg h1]; simp
    rw [hp]
    have hd2 : decide (L.length < i) = false := by simp [hil]
    have hd4 : decide ((L.length : Int) - (i : Int) < (m : Int)) = false := by simp; omega
    have okk := ok_del hr.ok (show i ≤ i + m by omega) him
    have hchg : ∀ w', Below w.heap.size w w' → PackRow w' p g cap cur L := fun w' hb => hr.chg (Chg.of_below (fun _ => False) hb) id id
    have HS1 := Lib.hid (seek_row hr hl hil)
    have HS2 := Lib.hid (fun w' (hb : Below w.heap.size w w') => seek_row (hchg w' hb) (hl.below hb) him)
    have HCh := Lib.hid (fun w' (hb : Below w.heap.size w w') => change_row (hchg w' hb) i (i + m) (by omega) him [] okk none 0 0 (Nat.le_refl _) rfl (.inl rfl) (-(m : Int)) (by simp; omega))
    have HFin := Lib.hid (show ∀ w' w'' , Below w.heap.size w w' → (∃ cap' cur', PackRow w'' p w'.heap.size cap' cur' (L.take i ++ [] ++ L.drop (i + m))) → Chg (fun k => k = p) w' w'' → (∃ F', PackF w'' p F' (L.take i ++ [] ++ L.drop (i + m)) ∧ Fresh w F F') ∧ Chg F w w'' from fun w' w'' hb ⟨cap', cur', hr'⟩ hc =>
      ⟨⟨fun k => k = p ∨ k = w'.heap.size, ⟨_, cap', cur', hr', fun k => Iff.rfl⟩, fun k hk => hk.imp (fun e => (hF k).2 (.inl e)) fun e => by have := hb.size; omega⟩,
        (Chg.of_below F hb).trans hc fun k hk _ => (hF k).2 (.inl hk)⟩)
    clear hr hF hl hp h1 HFst okk hchg
    generalize offL L i = k at *
    generalize offL L (i + m) = k' at *
    go_enter Tryd.func22, Tryd.ntmps22
    go_wp2_with fail
    refine HG.out.mono ?_
    rintro e w' ⟨rfl, rfl⟩
    go_wp2_with fail
    refine HL.out.mono ?_
    rintro e w' ⟨rfl, rfl⟩
    go_wp2_with fail
    refine HL.out.mono ?_
    rintro e w' ⟨rfl, rfl⟩
    go_wp2_with fail
    refine HS1.out.mono ?_
    rintro e w1 ⟨rfl, b1⟩
    have B1 := Lib.hid b1
    clear b1
    go_wp2_with fail
    refine (HS2.out _ B1.out).mono ?_
    rintro e w2 ⟨rfl, b2⟩
    have B2 := Lib.hid (B1.out.trans (b2.mono B1.out.size))
    clear b2
    go_wp2_with fail
    refine (HCh.out _ B2.out).mono ?_
    rintro e w3 ⟨rfl, hr3, c3⟩
    have HF3 := Lib.hid (HFin.out w2 w3 B2.out hr3 c3)
    clear hr3 c3
    go_wp2_with fail
    go_ret
    exact ⟨rfl, HF3.out.1, HF3.out.2⟩
section
variable {w : World} {p : Nat} {F : Nat → Prop} {L : List ByteArray}
theorem packLen (h : PackF w p F L) : Calls Tryd.prog 19 #[.pointer (some ⟨p, 0, none⟩)] w fun e w' => e = .returned (.int .i64 L.length) ∧ w = w' := by
  obtain ⟨g, cap, cur, hr, hF⟩ := h; exact plen_row hr
theorem packSize (h : PackF w p F L) : Calls Tryd.prog 20 #[.pointer (some ⟨p, 0, none⟩)] w fun e w' => e = .returned (.int .i64 (sizeP L)) ∧ w = w' := by
  obtain ⟨g, cap, cur, hr, hF⟩ := h; exact psize_row hr
theorem packBytes (h : PackF w p F L) : Calls Tryd.prog 14 #[.pointer (some ⟨p, 0, none⟩)] w fun e w' => e = .returned (.string (strOf (packL L))) ∧ w = w' := by
  obtain ⟨g, cap, cur, hr, hF⟩ := h; exact pbytes_row hr
theorem packGet (h : PackF w p F L) (hl : Laid w) (a : Int) (ha : -9223372036854775808 ≤ a ∧ a ≤ 9223372036854775807) : Calls Tryd.prog 21 #[.pointer (some ⟨p, 0, none⟩), .int .i64 a] w fun e w' => e = .returned (getV L a) ∧ Below w.heap.size w w' := by
  obtain ⟨g, cap, cur, hr, hF⟩ := h; exact get_row hr hl a ha
end
end Go.Proofs.YtcoepekoacpgnaaDoor
