/- pack: New, Insert, as objects. -/
import Derived.Test.YtcoepekoacpgnaaDoorPck12
namespace Go.Proofs.YtcoepekoacpgnaaDoor
set_option linter.unusedVariables false
set_option linter.unusedSimpArgs false
open Go.RowKit
/-- A pack and its blocks. -/
def PackF (w : World) (p : Nat) (F : Nat → Prop) (L : List ByteArray) : Prop := ∃ g cap cur, PackRow w p g cap cur L ∧ ∀ k, F k ↔ k = p ∨ k = g
section
variable {w : World} {p : Nat} {F : Nat → Prop} {L : List ByteArray}
theorem PackF.ok (h : PackF w p F L) : OKL L := by obtain ⟨_, _, _, h, _⟩ := h; exact h.ok
theorem PackF.lt (h : PackF w p F L) {k : Nat} (hk : F k) : k < w.heap.size := by
  obtain ⟨g, cap, cur, h, hF⟩ := h
  rcases (hF k).1 hk with rfl | rfl
  · exact heap_lt h.head
  · exact h.row.lt
theorem PackF.chg (h : PackF w p F L) {S : Nat → Prop} {w' : World} (hc : Chg S w w') (hn : ∀ k, F k → ¬ S k) : PackF w' p F L := by
  obtain ⟨g, cap, cur, h, hF⟩ := h
  exact ⟨g, cap, cur, h.chg hc (hn p ((hF p).2 (.inl rfl))) (hn g ((hF g).2 (.inr rfl))), hF⟩
theorem PackF.below (h : PackF w p F L) {w' : World} (hb : Below w.heap.size w w') : PackF w' p F L := h.chg (Chg.of_below (fun _ => False) hb) fun _ _ => id
theorem PackF.head (h : PackF w p F L) : F p := by obtain ⟨g, cap, cur, h, hF⟩ := h; exact (hF p).2 (.inl rfl)
end
theorem okl_nil : OKL [] := ⟨by decide, by decide, by simp⟩
set_option maxHeartbeats 800000 in
set_option maxRecDepth 100000 in
theorem packNew (w : World) : Calls Tryd.prog 39 #[] w fun e w' => ∃ p, e = .returned (.pointer (some ⟨p, 0, none⟩)) ∧ (∃ F, PackF w' p F [] ∧ ∀ k, F k → w.heap.size ≤ k) ∧ w.heap.size ≤ p ∧ Chg (fun _ => False) w w' := by
  obtain ⟨w1, hw1⟩ : ∃ w1, w1 = w.alloc (.cells #[.int .u8 9, .int .u8 0, .int .u8 0, .int .u8 0, .int .u8 0, .int .u8 0, .int .u8 0, .int .u8 0, .int .u8 255] 5) := ⟨_, rfl⟩
  obtain ⟨w2, hw2⟩ : ∃ w2, w2 = w1.alloc (.cells #[.slice (some ⟨w.heap.size, 0, none⟩) 9 9] 69) := ⟨_, rfl⟩
  have hs1 : w1.heap.size = w.heap.size + 1 := by rw [hw1]; simp
  have HR := Lib.hid (show PackRow w2 w1.heap.size w.heap.size 9 #[.int .u8 9, .int .u8 0, .int .u8 0, .int .u8 0, .int .u8 0, .int .u8 0, .int .u8 0, .int .u8 0, .int .u8 255] [] from
    { head := by rw [hw2]; exact heap_new _ _, row := by rw [hw2, hw1]; exact .of (heap_old (heap_new _ _) _), size := rfl, le := by decide, capm := by decide, bytes := rfl, ok := okl_nil })
  have HC := Lib.hid (show Chg (fun _ => False) w w2 by rw [hw2, hw1]; exact (Chg.alloc _ _ _).trans (Chg.alloc _ _ _) fun _ h _ => h)
  have HW1 := Lib.hid hw1
  have HW2 := Lib.hid hw2
  rw [hs1] at HR
  clear hw1 hw2 hs1
  go_enter Tryd.func39, Tryd.ntmps39
  go_wp2_with fail
  rw [← HW1.out]
  rw [← HW2.out]
  go_ret
  exact ⟨_, rfl, ⟨_, ⟨_, _, _, HR.out, fun k => Iff.rfl⟩, fun k hk => by rcases hk with rfl | rfl <;> omega⟩, by omega, HC.out⟩
def insP (L : List ByteArray) (a : Int) (s : ByteArray) : Int × List ByteArray :=
  if a < 0 ∨ (L.length : Int) < a then (1, L) else if 65536 < s.size ∨ 1048576 ≤ L.length then (3, L) else if 1073741824 < sizeP L + (entL s).length then (3, L) else (0, L.take a.toNat ++ [s] ++ L.drop a.toNat)
theorem take_drop_len {L : List ByteArray} {i : Nat} (h : i ≤ L.length) (M : List ByteArray) : (L.take i ++ M ++ L.drop i).length = L.length + M.length := by simp; omega
theorem ok_ins {L : List ByteArray} (h : OKL L) {i : Nat} (hi : i ≤ L.length) {s : ByteArray} (hs : s.size ≤ 65536) (hm : L.length < 1048576) (hz : sizeP L + (entL s).length ≤ 1073741824) : OKL (L.take i ++ [s] ++ L.drop i) := by
  have h1 := sizeP_cut (L := L) (M := [s]) (Nat.le_refl i) hi
  have h2 : bodyL [s] = entL s := by rw [bodyL_cons, bodyL_nil, List.append_nil]
  rw [h2] at h1
  refine ⟨by omega, by rw [take_drop_len hi]; simp; omega, fun x hx => ?_⟩
  simp only [List.mem_append, List.mem_singleton] at hx
  rcases hx with (hx | rfl) | hx
  · exact h.each _ (List.mem_of_mem_take hx)
  · exact hs
  · exact h.each _ (List.mem_of_mem_drop hx)
set_option maxHeartbeats 1600000 in
set_option maxRecDepth 100000 in
theorem packInsert {w : World} {p : Nat} {F : Nat → Prop} {L : List ByteArray} (h : PackF w p F L) (hl : Laid w) (a : Int) (ha : -9223372036854775808 ≤ a ∧ a ≤ 9223372036854775807) (s : ByteArray) (hs : s.size ≤ 9000000000000000000) :
    Calls Tryd.prog 23 #[.pointer (some ⟨p, 0, none⟩), .int .i64 a, .string s] w fun e w' => e = .returned (.int .i64 (insP L a s).1) ∧ (∃ F', PackF w' p F' (insP L a s).2 ∧ Fresh w F F') ∧ Chg F w w' := by
  obtain ⟨g, cap, cur, hr, hF⟩ := h
  have HFst := Lib.hid (show Chg F w w ∧ ∃ F', PackF w p F' L ∧ Fresh w F F' from ⟨Chg.refl _ _, F, ⟨g, cap, cur, hr, hF⟩, fun k hk => .inl hk⟩)
  have HG := Lib.hid (gone_row hr.cell0)
  have HL := Lib.hid (plen_row hr)
  have hmany := hr.ok.many
  have hsz := hr.ok.size
  by_cases h1 : a < 0 ∨ (L.length : Int) < a
  · have hp : insP L a s = (1, L) := by unfold insP; rw [if_pos h1]
    rw [hp]
    clear hr hF hl hp
    by_cases h0 : a < 0
    · have hd : decide (a < 0) = true := by simp; omega
      clear h1
      go_enter Tryd.func23, Tryd.ntmps23
      go_wp2_with fail
      refine HG.out.mono ?_
      rintro e w' ⟨rfl, rfl⟩
      go_wp2_with fail
      go_ret
      exact ⟨rfl, HFst.out.2, HFst.out.1⟩
    · have hd : decide (a < 0) = false := by simp; omega
      have hd2 : decide ((L.length : Int) < a) = true := by simp; omega
      clear h1
      go_enter Tryd.func23, Tryd.ntmps23
      go_wp2_with fail
      refine HG.out.mono ?_
      rintro e w' ⟨rfl, rfl⟩
      go_wp2_with fail
      refine HL.out.mono ?_
      rintro e w' ⟨rfl, rfl⟩
      go_wp2_with fail
      go_ret
      exact ⟨rfl, HFst.out.2, HFst.out.1⟩
  · obtain ⟨i, rfl⟩ : ∃ i : Nat, a = (i : Int) := ⟨a.toNat, by omega⟩
    have hil : i ≤ L.length := by omega
    have hd : decide ((i : Int) < 0) = false := by simp
    have hd2 : decide (L.length < i) = false := by simp [hil]
    by_cases h2 : 65536 < s.size ∨ 1048576 ≤ L.length
    · have hp : insP L i s = (3, L) := by unfold insP; rw [if_neg h1, if_pos h2]
      rw [hp]
      clear hr hF hl hp h1
      by_cases h3 : 65536 < s.size
      · have hd3 : decide ((65536 : Int) < (s.size : Int)) = true := by simp; omega
        clear h2
        go_enter Tryd.func23, Tryd.ntmps23
        go_wp2_with fail
        refine HG.out.mono ?_
        rintro e w' ⟨rfl, rfl⟩
        go_wp2_with fail
        refine HL.out.mono ?_
        rintro e w' ⟨rfl, rfl⟩
        go_wp2_with fail
        go_ret
        exact ⟨rfl, HFst.out.2, HFst.out.1⟩
      · have hd3 : decide ((65536 : Int) < (s.size : Int)) = false := by simp; omega
        have hd4 : decide ((1048576 : Int) ≤ (L.length : Int)) = true := by simp; omega
        clear h2
        go_enter Tryd.func23, Tryd.ntmps23
        go_wp2_with fail
        refine HG.out.mono ?_
        rintro e w' ⟨rfl, rfl⟩
        go_wp2_with fail
        refine HL.out.mono ?_
        rintro e w' ⟨rfl, rfl⟩
        go_wp2_with fail
        refine HL.out.mono ?_
        rintro e w' ⟨rfl, rfl⟩
        go_wp2_with fail
        go_ret
        exact ⟨rfl, HFst.out.2, HFst.out.1⟩
    · have hd3 : decide ((65536 : Int) < (s.size : Int)) = false := by simp; omega
      have hd4 : decide ((1048576 : Int) ≤ (L.length : Int)) = false := by simp; omega
      have HE := Lib.hid (entry_any s (by omega) hl)
      have c0 := hr.cell0
      have he := entL_length s (by omega)
      have hle := hr.le
      obtain ⟨ne, hne⟩ : ∃ ne, (entL s).length = ne := ⟨_, rfl⟩
      rw [hne] at HE he
      have hpl := heap_lt hr.head
      by_cases h5 : 1073741824 < sizeP L + ne
      · have hp : insP L i s = (3, L) := by unfold insP; rw [if_neg h1, if_neg h2, hne, if_pos h5]
        rw [hp]
        have hd5 : decide ((1073741824 : Int) < (sizeP L : Int) + (ne : Int)) = true := by simp; omega
        have HFst2 := Lib.hid (show ∀ w', Below w.heap.size w w' → Chg F w w' ∧ ∃ F', PackF w' p F' L ∧ Fresh w F F' from fun w' hb => ⟨Chg.of_below _ hb, F, ⟨g, cap, cur, hr.chg (Chg.of_below (fun _ => False) hb) id id, hF⟩, fun k hk => .inl hk⟩)
        clear hr hF hl hp h1 h2 HFst hne
        go_enter Tryd.func23, Tryd.ntmps23
        go_wp2_with fail
        refine HG.out.mono ?_
        rintro e w' ⟨rfl, rfl⟩
        go_wp2_with fail
        refine HL.out.mono ?_
        rintro e w' ⟨rfl, rfl⟩
        go_wp2_with fail
        refine HL.out.mono ?_
        rintro e w' ⟨rfl, rfl⟩
        go_wp2_with fail
        refine HE.out.mono ?_
        rintro e w1 ⟨v1, rfl, s1, b1⟩
        obtain ⟨a1, cp1, rfl, _⟩ := s1.arg
        have B1 := Lib.hid b1
        have c01 := (b1.cell (p := ⟨p, 0, none⟩) hpl).trans c0
        clear s1 b1 HE
        go_wp2_with fail
        go_ret
        exact ⟨rfl, (HFst2.out _ B1.out).2, (HFst2.out _ B1.out).1⟩
      · have hp : insP L i s = (0, L.take i ++ [s] ++ L.drop i) := by unfold insP; rw [if_neg h1, if_neg h2, hne, if_neg h5]; simp
        rw [hp]
        have hd5 : decide ((1073741824 : Int) < (sizeP L : Int) + (ne : Int)) = false := by simp; omega
        have okk := ok_ins hr.ok hil (s := s) (by omega) (by omega) (by rw [hne]; omega)
        have hb1 : bodyL [s] = entL s := by rw [bodyL_cons, bodyL_nil, List.append_nil]
        have HSk := Lib.hid (fun w' (hb : Below w.heap.size w w') => seek_row (hr.chg (Chg.of_below (fun _ => False) hb) id id) (hl.below hb) hil)
        have HCh := Lib.hid (fun w' (hb : Below w.heap.size w w') => change_row (hr.chg (Chg.of_below (fun _ => False) hb) id id) i i (Nat.le_refl _) hil [s] okk)
        have HFin := Lib.hid (show ∀ w' w'' , Below w.heap.size w w' → (∃ cap' cur', PackRow w'' p w'.heap.size cap' cur' (L.take i ++ [s] ++ L.drop i)) → Chg (fun k => k = p) w' w'' → (∃ F', PackF w'' p F' (L.take i ++ [s] ++ L.drop i) ∧ Fresh w F F') ∧ Chg F w w'' from fun w' w'' hb ⟨cap', cur', hr'⟩ hc =>
          ⟨⟨fun k => k = p ∨ k = w'.heap.size, ⟨_, cap', cur', hr', fun k => Iff.rfl⟩, fun k hk => hk.imp (fun e => (hF k).2 (.inl e)) fun e => by have := hb.size; omega⟩,
            (Chg.of_below F hb).trans hc fun k hk _ => (hF k).2 (.inl hk)⟩)
        have HO := Lib.hid (And.intro hb1 hne)
        have HTl := Lib.hid (take_drop_len hil [s])
        clear hr hF hl hp h1 h2 HFst hne okk hb1
        generalize offL L i = k at *
        generalize sizeP L = sz at *
        go_enter Tryd.func23, Tryd.ntmps23
        go_wp2_with fail
        refine HG.out.mono ?_
        rintro e w' ⟨rfl, rfl⟩
        go_wp2_with fail
        refine HL.out.mono ?_
        rintro e w' ⟨rfl, rfl⟩
        go_wp2_with fail
        refine HL.out.mono ?_
        rintro e w' ⟨rfl, rfl⟩
        go_wp2_with fail
        refine HE.out.mono ?_
        rintro e w1 ⟨v1, rfl, s1, b1⟩
        obtain ⟨a1, cp1, rfl, hargs⟩ := s1.arg
        have B1 := Lib.hid b1
        have S1 := Lib.hid s1
        have hcp1 := hargs.1
        have c01 := (b1.cell (p := ⟨p, 0, none⟩) hpl).trans c0
        clear s1 b1 HE hargs
        go_wp2_with fail
        refine (HSk.out _ B1.out).mono ?_
        rintro e w2 ⟨rfl, b2⟩
        have B2 := Lib.hid (B1.out.trans (b2.mono B1.out.size))
        have HC2 := Lib.hid (HCh.out w2 B2.out a1 ne cp1 hcp1 (by rw [HO.out.1, HO.out.2]) (by
          obtain ⟨b, o, e, hc⟩ := (S1.out.below b2).arg_bytes (by omega)
          cases e
          exact .inr ⟨b, o, rfl, by rw [HO.out.1]; exact hc⟩) 1 (by rw [HTl.out]; simp))
        clear b2 c01
        go_wp2_with fail
        refine HC2.out.mono ?_
        rintro e w3 ⟨rfl, hr3, c3⟩
        have HF3 := Lib.hid (HFin.out w2 w3 B2.out hr3 c3)
        clear hr3 c3
        go_wp2_with fail
        go_ret
        exact ⟨rfl, HF3.out.1, HF3.out.2⟩
end Go.Proofs.YtcoepekoacpgnaaDoor
