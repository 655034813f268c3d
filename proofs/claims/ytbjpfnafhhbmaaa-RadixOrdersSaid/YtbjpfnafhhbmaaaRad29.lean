/- radix: Delete of what is not there, and of the only thing. -/
import Derived.Test.YtbjpfnafhhbmaaaRad28
namespace Go.Proofs.Ytbjpfnafhhbmaaa.Rad
open Go.Proofs.Ytbjpfnafhhbmaaa
set_option linter.unusedVariables false
set_option linter.unusedSimpArgs false
open Go.RowKit RT
/-- What Delete does. -/
def Deleted (w : World) (p : Nat) (G : Nat → Prop) (T : Option RT) (n : Nat) (s : List UInt8) (e : Ending) (w' : World) : Prop :=
  e = .returned (.bool (lookO T s).isSome) ∧ ∃ G', TreeF w' p G' (if (lookO T s).isSome then delO T s else T) (if (lookO T s).isSome then n - 1 else n) ∧ Fresh w G G' ∧ Chg G w w'
theorem Deleted.no {w w' : World} {p : Nat} {G : Nat → Prop} {T : Option RT} {n : Nat} {s : List UInt8} (h : TreeF w p G T n) (hl : lookO T s = none) (hb : Below w.heap.size w w') : Deleted w p G T n s (.returned (.bool false)) w' := by
  refine ⟨by rw [hl]; rfl, G, ?_, fun k hk => .inl hk, Chg.of_below _ hb⟩
  rw [hl]
  exact h.below hb
theorem Deleted.yes {w w' : World} {p : Nat} {G : Nat → Prop} {T : Option RT} {n : Nat} {s : List UInt8} (hl : (lookO T s).isSome = true) (h : ∃ G', TreeF w' p G' (delO T s) (n - 1) ∧ Fresh w G G' ∧ Chg G w w') : Deleted w p G T n s (.returned (.bool true)) w' := by
  refine ⟨by rw [hl], ?_⟩
  rw [hl]
  simpa using h
theorem del_first {w w3 : World} {p : Nat} {G : Nat → Prop} {t : RT} {x n : Nat} {own : List Nat} {ro : Nat → Prop} {s : List UInt8} {v : VT} (hGl : ∀ k, G k → k < w.heap.size) (hG : ∀ k, k = p ∨ k ∈ own ∨ ro k → G k) (hb : Below w.heap.size w w3) (hr : RootAt w3 ro p n t x own) (ht : t = .mk s v []) (hn : 0 < n) :
    ∃ G', TreeF ((w3.setCell ⟨p, 2, none⟩ (.int .i64 ((n : Int) - 1))).setCell ⟨p, 1, none⟩ (.pointer none)) p G' (delO (some t) s) (n - 1) ∧ Fresh w G G' ∧ Chg G w ((w3.setCell ⟨p, 2, none⟩ (.int .i64 ((n : Int) - 1))).setCell ⟨p, 1, none⟩ (.pointer none)) := by
  have hd : delO (some t) s = none := by rw [ht]; rfl
  have h1 := setCell_head hr.1 2 (.int .i64 ((n : Int) - 1))
  have h2 := setCell_head h1 1 (.pointer none)
  have hc : Chg (fun k => k = p) w3 ((w3.setCell ⟨p, 2, none⟩ (.int .i64 ((n : Int) - 1))).setCell ⟨p, 1, none⟩ (.pointer none)) := (Chg.setCell (fun k => k = p) _ _ _ rfl).trans (Chg.setCell (fun k => k = p) _ _ _ rfl) fun _ h _ => h
  have hc0 := (Chg.of_below G hb).trans hc fun k hk _ => hk ▸ hG p (.inl rfl)
  rw [hd]
  refine ⟨G, ⟨fun k hk => Nat.lt_of_lt_of_le (hGl k hk) hc0.size, ?_, hG p (.inl rfl)⟩, fun k hk => .inl hk, hc0⟩
  rw [h2]
  simp
  omega
/-- What is known of Delete behind its find. -/
theorem radDel_pre {w : World} {p : Nat} {G : Nat → Prop} {T : Option RT} {n : Nat} (h : TreeF w p G T n) {s : List UInt8} {w2 w3 : World} {e : Ending} (hb2 : Below w.heap.size w w2) (hf : FindF w2 p G T n s e w3) (hs : s.length = 16) : Below w.heap.size w w3 ∧ (w2.heap.size ≤ w3.heap.size) := by
  exact ⟨hb2.trans (hf.1.mono hb2.size), hf.1.size⟩
set_option maxHeartbeats 1600000 in
set_option maxRecDepth 100000 in
theorem radDel_small {w : World} {p : Nat} {G : Nat → Prop} {T : Option RT} {n : Nat} (h : TreeF w p G T n) {ms seq : Nat} (h1 : ms < 18446744073709551616) (h2 : seq < 18446744073709551616) (hn : n ≤ 1000000000) (hl : lookO T (idBytes ms seq) ≠ none → 0 < n ∧ ∃ t, T = some t ∧ t.kids = []) :
    Calls Try.prog 11 #[ptrV p, .agg #[.int .u64 ms, .int .u64 seq]] w (Deleted w p G T n (idBytes ms seq)) := by
  have HF := Lib.hid (fun w' (hb : Below w.heap.size w w') a ca (ha : BytesIn w' a (idBytes ms seq) ca) => radFindF (h.below hb) (idBytes_length ms seq) ha)
  have HBy := Lib.hid (fun w => bytes_any ms seq h1 h2 w)
  obtain ⟨w1, hw1⟩ : ∃ w1, w1 = w.alloc (.cells #[.int .u64 ms, .int .u64 seq] 25) := ⟨_, rfl⟩
  have hb1 : Below w.heap.size w w1 := by rw [hw1]; exact (Below.refl _ _).alloc (Nat.le_refl _) _
  have HW := Lib.hid hw1
  have HB1 := Lib.hid hb1
  have HT := Lib.hid h
  have HL := Lib.hid hl
  clear h h1 h2 hw1 hb1 hl
  unfold ptrV
  go_enter Try.func11, Try.ntmps11
  go_wp2_with fail
  rw [← HW.out]
  refine (HBy.out _).mono ?_
  rintro e w2 ⟨bv, rfl, hs, hb⟩
  obtain ⟨a, ca, rfl, hbi⟩ := slice_bytes hs
  have HB2 := Lib.hid (HB1.out.trans (hb.mono HB1.out.size))
  have HBi := Lib.hid hbi
  clear hs hb hbi
  go_wp2_with fail
  refine (HF.out w2 HB2.out a ca HBi.out).mono ?_
  rintro e w3 ⟨hb3, hcase⟩
  have HB3 := Lib.hid (HB2.out.trans (hb3.mono HB2.out.size))
  rcases hcase with ⟨hno, rfl⟩ | ⟨ro, t, x, own, v, y, o, s', ab, c, d, K, va, hT, hw, hG, hlk, hway, rfl, hsl⟩
  · have HNo := Lib.hid hno
    clear hno hb3
    go_wp2_with fail
    go_ret
    exact Deleted.no HT.out HNo.out HB3.out
  · obtain ⟨hn0, t', hT', hk⟩ := HL.out (by rw [hT]; intro e; rw [show lookO (some t) (idBytes ms seq) = RT.look t (idBytes ms seq) from rfl, hlk] at e; cases e)
    rw [hT] at hT'
    cases hT'
    have hab : ab = [] := Decidable.byContradiction fun hab => by
      have hpl := hway.plain (by rw [idBytes_length]; exact hw)
      have key : ∀ {u : RT} {y : Nat} {o : List Nat} {s' : List UInt8} {ab : List Nat} {c d : Nat} {K : RT → RT}, Way w2 ro p n t x own (idBytes ms seq) u y o s' ab c d K → ab ≠ [] → t.kids ≠ [] := by
        intro u y o s' ab c d K h
        induction h with
        | here _ => intro h; exact absurd rfl h
        | @down b v k y o s' ab c d K i z oi g u h _ hu _ _ ih =>
          intro _
          by_cases h0 : ab = []
          · have := h.roots h0
            rw [← this]
            intro e
            rw [show (RT.mk b v k).kids = k from rfl] at e
            rw [e] at hu; simp at hu
          · exact ih h0
      exact key hway hab hk
    have htt := hway.roots hab
    have hs' : s' = idBytes ms seq := by
      rw [← htt] at hlk
      have := look_pre (t := .mk s' v []) (s := idBytes ms seq) (by rw [hlk]; rfl)
      have hwl := hw
      rw [← htt, WF] at hwl
      have hl16 : s'.length = 16 := by
        rcases hwl.2 with ⟨_, h⟩ | ⟨h, _⟩
        · exact h
        · simp at h
      rw [show (RT.mk s' v []).begin = s' from rfl, hl16, ← idBytes_length ms seq, List.take_length] at this
      exact this.symm
    have hr3 := hway.root.chg (Chg.of_below (fun _ => False) hb3) (fun _ _ => id) fun _ _ => id
    have h3 := hr3.1
    have d2 := cell_in h3 (i := 2) rfl
    have d1 := cell_in h3 (i := 1) rfl
    have f1 := frozen_in h3 1
    have f2 := frozen_in h3 2
    obtain ⟨a5, c5, rfl, _⟩ := hsl.arg
    have hab0 : ab.length = 0 := by rw [hab]; rfl
    rw [hab0]
    have HFin := Lib.hid (Deleted.yes (w := w) (G := G) (T := some t) (n := n) (s := idBytes ms seq) (p := p) (by show (RT.look t (idBytes ms seq)).isSome = true; rw [hlk]; rfl) (del_first (v := v) HT.out.1 hG HB3.out hr3 (by rw [← htt, hs']) hn0))
    have HT2 := Lib.hid hT
    clear h3 hr3 htt hs' hk hsl hab hway hlk hG hw hb3 hab0 hT
    go_wp2_with fail
    go_ret
    rw [HT2.out]
    exact HFin.out
end Go.Proofs.Ytbjpfnafhhbmaaa.Rad
