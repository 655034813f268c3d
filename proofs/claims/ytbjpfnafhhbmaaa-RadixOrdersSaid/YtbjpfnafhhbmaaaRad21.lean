/- radix: whole trees; Get. -/
import Derived.Test.YtbjpfnafhhbmaaaRad20
namespace Go.Proofs.Ytbjpfnafhhbmaaa.Rad
open Go.Proofs.Ytbjpfnafhhbmaaa
set_option linter.unusedVariables false
set_option linter.unusedSimpArgs false
open Go.RowKit RT
/-- Tree p, in blocks of G, has the things T; it counts n of them. -/
def TreeF (w : World) (p : Nat) (G : Nat → Prop) (T : Option RT) (n : Nat) : Prop :=
  (∀ k, G k → k < w.heap.size) ∧ match T with
  | none => w.heap[p]? = some (.cells #[.bool true, .pointer none, .int .i64 n] 40 (0, 0)) ∧ G p
  | some t => WF 16 t ∧ ∃ ro x own, RootAt w ro p n t x own ∧ ∀ k, k = p ∨ k ∈ own ∨ ro k → G k
def lookO (T : Option RT) (s : List UInt8) : Option VT := T.bind fun t => RT.look t s
def putO (T : Option RT) (s : List UInt8) (v : VT) : Option RT := some (match T with
  | none => .mk s v []
  | some t => RT.put t s v)
def delO (T : Option RT) (s : List UInt8) : Option RT := T.bind fun t => if t.kids.isEmpty then none else some (RT.del t s)
theorem RootAt.chg {w w' : World} {ro : Nat → Prop} {p n : Nat} {t : RT} {x : Nat} {own : List Nat} (h : RootAt w ro p n t x own) {S : Nat → Prop} (hc : Chg S w w') (hr : ∀ k, ro k → ¬ S k) (hd : ∀ k ∈ p :: own, ¬ S k) : RootAt w' ro p n t x own :=
  ⟨hc.keep h.1 (hd p (by simp)), h.2.1.chg hc hr fun k hk => hd k (by simp [hk]), h.2.2.1, fun k hk => ⟨(h.2.2.2 k hk).1, Nat.lt_of_lt_of_le (h.2.2.2 k hk).2 hc.size⟩⟩
theorem TreeF.chg {w w' : World} {p : Nat} {G : Nat → Prop} {T : Option RT} {n : Nat} (h : TreeF w p G T n) {S : Nat → Prop} (hc : Chg S w w') (hd : ∀ k, G k → ¬ S k) : TreeF w' p G T n := by
  refine ⟨fun k hk => Nat.lt_of_lt_of_le (h.1 k hk) hc.size, ?_⟩
  cases T with
  | none => exact ⟨hc.keep h.2.1 (hd p h.2.2), h.2.2⟩
  | some t =>
    obtain ⟨_, hw, ro, x, own, h1, h2⟩ := h
    exact ⟨hw, ro, x, own, h1.chg hc (fun k hk => hd k (h2 k (.inr (.inr hk)))) fun k hk => hd k (h2 k ((List.mem_cons.1 hk).imp id .inl)), h2⟩
theorem TreeF.below {w w' : World} {p : Nat} {G : Nat → Prop} {T : Option RT} {n : Nat} (h : TreeF w p G T n) (hb : Below w.heap.size w w') : TreeF w' p G T n := h.chg (Chg.of_below (fun _ => False) hb) fun _ _ => id
theorem TreeF.head {w : World} {p : Nat} {G : Nat → Prop} {T : Option RT} {n : Nat} (h : TreeF w p G T n) : ∃ v, w.heap[p]? = some (.cells #[.bool true, v, .int .i64 n] 40 (0, 0)) ∧ (T = none → v = .pointer none) ∧ (T ≠ none → ∃ x, v = ptrV x) ∧ G p := by
  cases T with
  | none => exact ⟨_, h.2.1, fun _ => rfl, fun h => absurd rfl h, h.2.2⟩
  | some t =>
    obtain ⟨_, hw, ro, x, own, h1, h2⟩ := h
    exact ⟨_, h1.1, fun h => (by cases h), fun _ => ⟨x, rfl⟩, h2 p (.inl rfl)⟩
theorem slice_bytes {w : World} {B : Nat} {v : Value} {n : Nat} {xs : List UInt8} (h : SliceIs w B 5 v n (xs.map u8v)) : ∃ a ca, v = .slice a n ca ∧ BytesIn w a xs ca := by
  have hl : xs.length = n := by have := h.1; simpa using this
  rcases h.2 with ⟨rfl, rfl⟩ | ⟨g, cap, cur, rfl, _, h3, h4, h5, _, h7⟩
  · exact ⟨none, 0, rfl, by omega, .inl hl⟩
  · refine ⟨_, cap, rfl, by omega, .inr ⟨g, 0, rfl, fun i hi => h3.cell ?_⟩⟩
    have e := congrArg (fun l => l[i]?) h7
    simp only [List.getElem?_take_of_lt (show i < n by omega), Array.getElem?_toList] at e
    rw [Nat.zero_add, e]
    simp [List.getD, hi]
/-- What find answers over whole trees. -/
def FindF (w : World) (p : Nat) (G : Nat → Prop) (T : Option RT) (n : Nat) (s : List UInt8) (e : Ending) (w' : World) : Prop :=
  Below w.heap.size w w' ∧ ((lookO T s = none ∧ e = .returned (.tuple #[.pointer none, .slice none 0 0])) ∨
    ∃ ro t x own v y o s' ab c d K va, T = some t ∧ WF 16 t ∧ (∀ k, k = p ∨ k ∈ own ∨ ro k → G k) ∧ RT.look t s = some v ∧ Way w ro p n t x own s (.mk s' v []) y o s' ab c d K ∧ e = .returned (.tuple #[.pointer (some ⟨y, 0, none⟩), va]) ∧ SliceIs w' w.heap.size 38 va ab.length (ab.map ptrV))
set_option maxHeartbeats 800000 in
set_option maxRecDepth 100000 in
theorem radFindF {w : World} {p : Nat} {G : Nat → Prop} {T : Option RT} {n : Nat} (h : TreeF w p G T n) {s : List UInt8} (hs : s.length = 16) {a : Option Addr} {ca : Nat} (ha : BytesIn w a s ca) :
    Calls Try.prog 16 #[ptrV p, .slice a 16 ca] w (FindF w p G T n s) := by
  cases T with
  | none =>
    have c1 := cell_in h.2.1 (i := 1) rfl
    clear h ha
    unfold ptrV
    go_enter Try.func16, Try.ntmps16
    go_wp2_with fail
    go_loopw [4] (fun x wr => x = .pointer none ∧ w = wr) (fun _ _ => 0)
    case atStart => exact ⟨rfl, rfl⟩
    case round =>
      obtain ⟨rfl, rfl⟩ := hrel
      go_wp2_with fail
      go_ret2
      exact ⟨Below.refl _ _, .inl ⟨rfl, rfl⟩⟩
  | some t =>
    obtain ⟨_, hw, ro, x, own, h1, h2⟩ := h
    have := radFind h1 (s := s) (by rw [hs]; exact hw) (fun e => by rw [e] at hs; simp at hs) (by omega) ha
    rw [hs] at this
    refine this.mono ?_
    rintro e w' ⟨hb, hc⟩
    refine ⟨hb, hc.imp (fun h => h) ?_⟩
    rintro ⟨v, y, o, s', ab, c, d, K, va, q1, q2, q3, q4⟩
    exact ⟨ro, t, x, own, v, y, o, s', ab, c, d, K, va, rfl, hw, h2, q1, q2, q3, q4⟩
theorem leaf_cell {w : World} {ro : Nat → Prop} {b : List UInt8} {v : VT} {k : List RT} {x : Nat} {own : List Nat} (h : NodeAt w ro (.mk b v k) x own) : w.cell? ⟨x, 2, none⟩ = some (vC v) ∧ x < w.heap.size := by
  obtain ⟨a, ca, kv, xs, rows, hp, _⟩ := parts_of h
  exact ⟨cell_in hp.1 (i := 2) rfl, heap_lt hp.1⟩
set_option maxHeartbeats 800000 in
set_option maxRecDepth 100000 in
theorem radGet {w : World} {p : Nat} {G : Nat → Prop} {T : Option RT} {n : Nat} (h : TreeF w p G T n) {ms seq : Nat} (h1 : ms < 18446744073709551616) (h2 : seq < 18446744073709551616) :
    Calls Try.prog 9 #[ptrV p, .agg #[.int .u64 ms, .int .u64 seq]] w fun e w' => e = .returned (.tuple #[vC ((lookO T (idBytes ms seq)).getD zT), .bool (lookO T (idBytes ms seq)).isSome]) ∧ Below w.heap.size w w' := by
  have HF := Lib.hid (fun w' (hb : Below w.heap.size w w') a ca (ha : BytesIn w' a (idBytes ms seq) ca) => radFindF (h.below hb) (idBytes_length ms seq) ha)
  have HBy := Lib.hid (fun w => bytes_any ms seq h1 h2 w)
  obtain ⟨w1, hw1⟩ : ∃ w1, w1 = w.alloc (.cells #[.int .u64 ms, .int .u64 seq] 25) := ⟨_, rfl⟩
  have hb1 : Below w.heap.size w w1 := by rw [hw1]; exact (Below.refl _ _).alloc (Nat.le_refl _) _
  have HW := Lib.hid hw1
  have HB1 := Lib.hid hb1
  clear h h1 h2 hw1 hb1
  unfold ptrV at *
  go_enter Try.func9, Try.ntmps9
  go_wp2_with fail
  rw [← HW.out]
  refine (HBy.out _).mono ?_
  rintro e w2 ⟨v, rfl, hs, hb⟩
  obtain ⟨a, ca, rfl, hbi⟩ := slice_bytes hs
  have HB2 := Lib.hid (HB1.out.trans (hb.mono HB1.out.size))
  have HBi := Lib.hid hbi
  clear hs hb hbi
  go_wp2_with fail
  refine (HF.out w2 HB2.out a ca HBi.out).mono ?_
  rintro e w3 ⟨hb3, hcase⟩
  have HB3 := Lib.hid (HB2.out.trans (hb3.mono HB2.out.size))
  rcases hcase with ⟨hno, rfl⟩ | ⟨ro, t, x, own, v, y, o, s', ab, c, d, K, va, hT, hw, hG, hl, hway, rfl, hsl⟩
  · have HNo := Lib.hid hno
    clear hno hb3
    go_wp2_with fail
    go_ret2
    exact ⟨by rw [HNo.out]; rfl, HB3.out⟩
  · obtain ⟨hcell, hy⟩ := leaf_cell hway.node
    have hcell3 : w3.cell? ⟨y, 2, none⟩ = some (vC v) := (hb3.cell (p := ⟨y, 2, none⟩) hy).trans hcell
    have HL := Lib.hid (show lookO T (idBytes ms seq) = some v by rw [hT]; exact hl)
    have HSl := Lib.hid hsl
    clear hcell hT hl hway hb3 hG hw hsl
    go_wp2_with fail
    go_ret2
    exact ⟨by rw [HL.out]; rfl, HB3.out⟩
end Go.Proofs.Ytbjpfnafhhbmaaa.Rad
