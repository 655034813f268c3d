/- radix: Put of what is new. -/
import Derived.Test.YtbjpfnafhhbmaaaRad25
namespace Go.Proofs.Ytbjpfnafhhbmaaa.Rad
open Go.Proofs.Ytbjpfnafhhbmaaa
set_option linter.unusedVariables false
set_option linter.unusedSimpArgs false
open Go.RowKit RT
/-- How much is left of Put's loop. -/
def measAt (p : Nat) : Value → Value → Nat
  | .slice _ n _, .pointer (some a) => 2 * n + (if a.block = p then 1 else 0)
  | _, _ => 0
theorem Way.top {w : World} {ro : Nat → Prop} {p n : Nat} {t : RT} {x : Nat} {own : List Nat} {s : List UInt8} {u : RT} {y : Nat} {o : List Nat} {s' : List UInt8} {ab : List Nat} {c d : Nat} {K : RT → RT} (h : Way w ro p n t x own s u y o s' ab c d K) (hab : ab = []) : c = p := by
  cases h with
  | here _ => rfl
  | down _ _ _ _ _ => simp at hab
set_option maxHeartbeats 6400000 in
set_option maxRecDepth 100000 in
theorem radPut_new {w : World} {p : Nat} {G : Nat → Prop} {t : RT} {n : Nat} (h : TreeF w p G (some t) n) {ms seq : Nat} (h1 : ms < 18446744073709551616) (h2 : seq < 18446744073709551616) (v : VT) (hn : n ≤ 1000000000) (hl : RT.look t (idBytes ms seq) = none) :
    Calls Try.prog 10 #[ptrV p, .agg #[.int .u64 ms, .int .u64 seq], vC v] w fun e w' => e = .returned (.bool true) ∧ ∃ G', TreeF w' p G' (putO (some t) (idBytes ms seq) v) (n + 1) ∧ Fresh w G G' ∧ Chg G w w' := by
  have HF := Lib.hid (fun w' (hb : Below w.heap.size w w') a ca (ha : BytesIn w' a (idBytes ms seq) ca) => radFindF (h.below hb) (idBytes_length ms seq) ha)
  have HBy := Lib.hid (fun w => bytes_any ms seq h1 h2 w)
  obtain ⟨hGl, hwf, ro0, x, own, hroot, hG⟩ := h
  have hplt := heap_lt hroot.1
  have c0 := cell_in hroot.1 (i := 0) rfl
  obtain ⟨w1, hw1⟩ : ∃ w1, w1 = w.alloc (.cells #[.int .u64 ms, .int .u64 seq] 25) := ⟨_, rfl⟩
  have hb1 : Below w.heap.size w w1 := by rw [hw1]; exact (Below.refl _ _).alloc (Nat.le_refl _) _
  have HW := Lib.hid hw1
  have HB1 := Lib.hid hb1
  have HT := Lib.hid (And.intro hGl (And.intro hwf (And.intro hroot (And.intro hG hl))))
  clear hGl hwf hroot hG h1 h2 hw1 hb1 hl
  unfold ptrV
  go_enter Try.func10, Try.ntmps10
  go_wp2_with fail
  rw [← HW.out]
  refine (HBy.out _).mono ?_
  rintro e w2 ⟨bv, rfl, hs, hb⟩
  obtain ⟨a, ca, rfl, hbi⟩ := slice_bytes hs
  have HB2 := Lib.hid (HB1.out.trans (hb.mono HB1.out.size))
  have HBi := Lib.hid hbi
  have HSb := Lib.hid hs
  clear hs hb hbi
  go_wp2_with fail
  refine (HF.out w2 HB2.out a ca HBi.out).mono ?_
  rintro e w3 ⟨hb3, hcase⟩
  have hlno : lookO (some t) (idBytes ms seq) = none := HT.out.2.2.2.2
  have he : e = .returned (.tuple #[.pointer none, .slice none 0 0]) := by
    rcases hcase with ⟨_, h⟩ | ⟨ro, t', x', own', v', y, o, s', ab, c, d, K, va, hT, _, _, hlk, _⟩
    · exact h
    · cases hT
      rw [HT.out.2.2.2.2] at hlk; cases hlk
  subst he
  have hb13 := HB2.out.trans (hb3.mono HB2.out.size)
  obtain ⟨ro, hro⟩ : ∃ ro : Nat → Prop, ro = fun k => ro0 k ∨ vblock (.slice a 16 ca) = some k := ⟨_, rfl⟩
  obtain ⟨w4, hw4⟩ : ∃ w4, w4 = w3.setCell ⟨p, 2, none⟩ (.int .i64 ((n : Int) + 1)) := ⟨_, rfl⟩
  have h34 : Chg (fun k => k = p) w3 w4 := by rw [hw4]; exact Chg.setCell _ _ _ _ rfl
  have hc4 : Chg (fun k => k = p) w w4 := (Chg.of_below _ hb13).trans h34 fun _ h _ => h
  have hbl : ∀ k, vblock (.slice a 16 ca) = some k → w.heap.size ≤ k ∧ k < w2.heap.size := fun k hk => by have := HSb.out.block_lt hk; have := HB1.out.size; omega
  have hsl4 : SliceIs w4 w1.heap.size 5 (.slice a 16 ca) 16 ((idBytes ms seq).map u8v) := (HSb.out.below hb3).chg h34 fun k hk e => by have := hbl k hk; omega
  have hin : ∀ k, k = p ∨ k ∈ own ∨ ro0 k → G k := HT.out.2.2.2.1
  have hGl : ∀ k, G k → k < w.heap.size := HT.out.1
  have hr0 := HT.out.2.2.1
  have hnp : ∀ k ∈ own, k ≠ p := fun k hk e => (List.nodup_cons.1 hr0.2.2.1).1 (e ▸ hk)
  have hroot4 : RootAt w4 ro p (n + 1) t x own := by
    have hh3 : w3.heap[p]? = some (.cells #[.bool true, ptrV x, .int .i64 n] 40 (0, 0)) := (hb13.block p hplt).trans hr0.1
    refine RootAt.more (ro := ro0) ⟨by rw [hw4]; exact setCell_head hh3 2 _, hr0.2.1.chg hc4 (fun k hk e => (hr0.2.2.2 p (by simp)).1 (e ▸ hk)) hnp, hr0.2.2.1, fun k hk => ⟨(hr0.2.2.2 k hk).1, Nat.lt_of_lt_of_le (hr0.2.2.2 k hk).2 hc4.size⟩⟩ (fun k hk => by rw [hro]; exact .inl hk) fun k hk hk' => ?_
    rw [hro] at hk'
    rcases hk' with hk' | hk'
    · exact (hr0.2.2.2 k hk).1 hk'
    · have := hbl k hk'; have := (hr0.2.2.2 k hk).2; omega
  have hbs4 : BytesRo w4 ro a (idBytes ms seq) ca := by
    have := slice_ro hsl4
    exact ⟨this.1, this.2.imp id fun ⟨b, o, e, q, r⟩ => ⟨b, o, e, by rw [hro]; exact .inr q, r⟩⟩
  have hGr : ∀ k, ro k → (G k ∨ w.heap.size ≤ k) ∧ k < w4.heap.size := fun k hk => by
    rw [hro] at hk
    have := hb3.size
    have := h34.size
    rcases hk with hk | hk
    · have h := hin k (.inr (.inr hk))
      exact ⟨.inl h, by have := hGl k h; have := hc4.size; omega⟩
    · have := hbl k hk
      exact ⟨.inr this.1, by omega⟩
  have HFr := Lib.hid (show G p ∧ (∀ k ∈ own, G k) ∧ (∀ k, ro k → (G k ∨ w.heap.size ≤ k) ∧ k < w4.heap.size) ∧ (∀ k, G k → k < w.heap.size) ∧ Chg G w w4 from
    ⟨hin p (.inl rfl), fun k hk => hin k (.inr (.inl hk)), hGr, hGl, hc4.mono fun k hk _ => hk ▸ hin p (.inl rfl)⟩)
  have hh3 : w3.heap[p]? = some (.cells #[.bool true, ptrV x, .int .i64 n] 40 (0, 0)) := (hb13.block p hplt).trans hr0.1
  have d1 := cell_in hh3 (i := 1) rfl
  have d2 := cell_in hh3 (i := 2) rfl
  have f2 := frozen_in hh3 2
  have hp3 := heap_lt hh3
  have HR4 := Lib.hid hroot4
  have HW4 := Lib.hid hw4
  have HBs := Lib.hid hbs4
  clear hh3 hroot4 hw4 hbs4 hGr hin hGl hr0 hnp hsl4 hbl hc4 h34 hro hb13 hcase hlno hb3
  go_wp2_with fail
  rw [← HW4.out]
  clear d1 d2 f2 hp3
  go_loopw [7, 10] (fun bv at_ wr => ∃ (n2 : Nat) (a2 : Option Addr) (c2 c d : Nat), n2 ≤ 16 ∧ bv = .slice a2 n2 c2 ∧ at_ = .pointer (some ⟨c, d, none⟩) ∧ Hid (∃ s' u y o ab K, s'.length = n2 ∧ s' ≠ [] ∧ Way w4 ro p (n + 1) t x own (idBytes ms seq) u y o s' ab c d K ∧ BytesRo w4 ro a2 s' c2) ∧
    Hid (Below w4.heap.size w4 wr)) (fun bv at_ _ => measAt p bv at_)
  case atStart => exact ⟨16, a, ca, p, 1, by omega, rfl, rfl, Lib.hid ⟨idBytes ms seq, t, x, own, [], id, idBytes_length ms seq, fun e => by have := idBytes_length ms seq; rw [e] at this; simp at this, .here HR4.out, HBs.out⟩, Lib.hid (Below.refl _ _)⟩
  case round =>
    obtain ⟨n2, a2, c2, c, d, hn2, rfl, rfl, hI, hB⟩ := hrel
    obtain ⟨s', ⟨b, vk, k⟩, y, o, ab, K, hs1, hne, hway, hbs⟩ := hI.out
    clear hI c0
    obtain ⟨hwf, hlook, _, _, _, hdep, hemp⟩ := hway.plain (by rw [idBytes_length]; exact HT.out.2.1)
    obtain ⟨k1, k2, k3, k4⟩ := hwf.kids
    obtain ⟨aa, cc, kv, xs, rows, hp, ho⟩ := parts_of hway.node
    have hsub := hway.sub
    have hba := hbs.chg (Chg.of_below (fun _ => False) hB.out) fun _ _ => id
    have hpb := hp.below hB.out
    obtain ⟨ab', ob', rfl, hroab, hablt, hcells⟩ := hba.2.resolve_left (fun h => hne (List.eq_nil_of_length_eq_zero h))
    have HAl := Lib.hid (alike_any hpb.2.1.bytes hba.bytes (by omega) (by omega))
    have hat : wr.cell? ⟨c, d, none⟩ = some (.pointer (some ⟨y, 0, none⟩)) := (hB.out.cell (p := ⟨c, d, none⟩) (World.block_lt_of_cell? w4 _ hway.cell.1)).trans hway.cell.1
    have hlkn : RT.look (.mk b vk k) s' = none := by rw [← hlook]; exact HT.out.2.2.2.2
    have hmlen : b.length ≤ s'.length := k1
    obtain ⟨m1, hm1⟩ : ∃ m1, b.length = m1 := ⟨_, rfl⟩
    rw [hm1, hs1] at HAl
    have hq := hpb.1
    rw [hm1] at hq
    have q0 := cell_in hq (i := 0) rfl
    rcases Nat.lt_or_ge (alikeN b s') b.length with hlt | hge
    · obtain ⟨al, hal⟩ : ∃ al, alikeN b s' = al := ⟨_, rfl⟩
      rw [hal] at HAl
      have hms : al < s'.length := by omega
      have halm : al < m1 := by omega
      obtain ⟨g, q, rfl, hrog, hglt, _⟩ := hp.2.1.2.resolve_left (by omega)
      obtain ⟨ch, hch⟩ : ∃ ch, s'.getD al 0 = ch := ⟨_, rfl⟩
      obtain ⟨n3, hn3⟩ : ∃ n3, n2 - al = n3 := ⟨_, rfl⟩
      have hl2 : n3 = (s'.drop al).length := by rw [List.length_drop]; omega
      have hn0 : 0 < n3 := by omega
      have hcc := hp.2.1.1
      have hc2 := hbs.1
      have hcne : ¬ (cc = al) := by omega
      have hle3 : al ≤ cc := by omega
      have hle4 : m1 ≤ cc := by omega
      have hywr := heap_lt hq
      have hcne2 : ¬ (c2 = al) := by omega
      have hle2 : al < n2 := by omega
      have f0 := frozen_in hq 0
      have hyw := heap_lt hp.1
      obtain ⟨xn, hxn⟩ : ∃ xn, xn = RT.mk (b.drop al) vk k := ⟨_, rfl⟩
      have hxnb : xn.begin ≠ [] := by rw [hxn]; exact cut_head (by omega)
      have hxnf : xn.first ≠ ch := by
        rw [hxn, ← hch, ← hal]
        show (b.drop (alikeN b s')).getD 0 0 ≠ _
        rw [head_drop]
        exact alike_part (by omega) (by omega)
      have hrlt : ∀ j, ro j → j < w4.heap.size := fun j hj => (HFr.out.2.2.1 j hj).2
      have hbs2 : BytesRo w4 ro (some ⟨ab', ob' + al, none⟩) (s'.drop al) (c2 - al) := hbs.rest hms
      have H1 := Lib.hid (fun w5 w6 hb5 hw6 => part1 (w5 := w5) (w6 := w6) hway hp ho hb5 (show al < b.length by omega) hw6)
      have H2 := Lib.hid (fun (w5 w6 w7 : World) e h5 h6 hn6 hc6 hs6 hadd => part2 (w5 := w5) (w6 := w6) (w7 := w7) (e := e) (g := g) (q := q) hway hrlt (show al < b.length by omega) h5 h6 hn6 hc6 hs6 hadd)
      have H3 := Lib.hid (fun (w8 w9 w11 : World) (Y : Nat) (kv7 : Value) e h8 hset hc8 hkv7 hY hb9 hbs' hadd => part3 (w0 := w) (w8 := w8) (w9 := w9) (w11 := w11) (Y := Y) (A := some ⟨g, q, none⟩) (kv7 := kv7) (G := G) (a2 := some ⟨ab', ob' + al, none⟩) (c2 := c2 - al) (n2 := n3) (vx := v) (e := e)
        hway hal (show al < b.length by omega) hms h8 hset hc8 hkv7 hY hb9 hl2 hbs' hadd HFr.out.1 HFr.out.2.1 HFr.out.2.2.1 HFr.out.2.2.2.1 HFr.out.2.2.2.2 HT.out.2.1 (idBytes_length ms seq))
      rw [← hxn, hm1] at H1
      rw [← hxn] at H2 H3
      rw [hch] at H3
      have HX := Lib.hid (And.intro hxnb (And.intro hxnf (And.intro hbs2 (And.intro hch (And.intro hl2 hrlt)))))
      have hoy : y ∈ o := by rw [ho]; simp
      have HCl := Lib.hid (show y < w4.heap.size ∧ c < w4.heap.size ∧ ¬ ro y ∧ ¬ ro c from ⟨hyw, World.block_lt_of_cell? w4 _ hway.cell.1, (hway.root.2.2.2 y (by simp [hsub.1 y hoy])).1, (hway.root.2.2.2 c hsub.2.2.2).1⟩)
      have hbt : (b.take al).length = al := by rw [List.length_take]; omega
      have HBt := Lib.hid hbt
      clear hxnb hxnf hbs2 hch hl2 hrlt hway hp ho hq hcells hbs hdep hemp hs1 hne hm1 hal hba hpb hsub hlkn hwf hlook k1 k2 k3 k4 hlt hxn hcc hc2 hrog hroab hoy hmlen hms hbt
      go_wp2_with fail
      refine HAl.out.mono ?_
      rintro e w5 ⟨rfl, m, hw5⟩
      have HB5 := Lib.hid (show Below w4.heap.size w4 w5 by rw [hw5]; exact belowN hB.out m)
      have q5 : w5.cell? ⟨y, 0, none⟩ = some (.slice (some ⟨g, q, none⟩) m1 cc) := by rw [hw5]; exact q0
      have f5 : w5.frozen? ⟨y, 0, none⟩ = false := by rw [hw5]; exact f0
      have y5 : y < w5.heap.size := by rw [hw5]; exact hywr
      have hab5 : ab' < w5.heap.size := by rw [hw5]; exact hablt
      clear hw5 q0 f0 hat hywr hyw
      obtain ⟨w6, hw6⟩ : ∃ w6, w6 = (w5.setCell ⟨y, 0, none⟩ (.slice (some ⟨g, q + al, none⟩) (m1 - al) (cc - al))).alloc (.cells #[.slice (some ⟨g, q, none⟩) al al, .slice none 0 0, .int .i64 0] 45) := ⟨_, rfl⟩
      obtain ⟨p6, y0, yc, n6, hc6, hs6⟩ := H1.out w5 w6 HB5.out hw6
      have HW6 := Lib.hid hw6
      have HA1 := Lib.hid (radAdd p6 (by simp [vblock]) (by simp) (by simp) (by simp) y0 (by omega) yc)
      have H6 := Lib.hid (And.intro p6 (And.intro n6 (And.intro hc6 hs6)))
      clear hw6 p6 y0 yc n6 hc6 hs6
      go_wp2_with fail
      rw [← HW6.out]
      refine HA1.out.mono ?_
      rintro e w7 hadd
      obtain ⟨⟨s7, f7⟩, kv7, p8, hset8, hc8, hkv8⟩ := H2.out w5 w6 w7 e HB5.out.size H6.out.1 H6.out.2.1 H6.out.2.2.1 H6.out.2.2.2 hadd
      obtain ⟨rfl, _⟩ := hadd
      obtain ⟨w8, hw8⟩ : ∃ w8, w8 = w7.setCell ⟨c, d, none⟩ (.pointer (some ⟨w5.heap.size, 0, none⟩)) := ⟨_, rfl⟩
      have hw8' : w7.setCell ⟨c, d, none⟩ (ptrV w5.heap.size) = w8 := hw8.symm
      rw [hw8'] at p8 hset8 hc8
      have hbs8 : BytesRo w8 ro (some ⟨ab', ob' + al, none⟩) (s'.drop al) (c2 - al) := HX.out.2.2.1.chg hc8 fun j hj hj' => by
        rcases hj' with rfl | rfl
        · exact HCl.out.2.2.1 hj
        · exact HCl.out.2.2.2 hj
      have hch8 : w8.cell? ⟨ab', ob' + al, none⟩ = some (.int .u8 ch.toNat) := by
        obtain ⟨_, _, e, _, _, hc⟩ := hbs8.2.resolve_left (by have := HX.out.2.2.2.2.1; omega)
        cases e
        have := hc 0 (by have := HX.out.2.2.2.2.1; omega)
        rw [Nat.add_zero, head_drop, HX.out.2.2.2.1] at this
        exact this
      have hroab : ro ab' := by
        obtain ⟨_, _, e, h1, _⟩ := hbs8.2.resolve_left (by have := HX.out.2.2.2.2.1; omega)
        cases e
        exact h1
      have hcab : c ≠ ab' := fun e => HCl.out.2.2.2 (e ▸ hroab)
      have hcab2 : ab' ≠ c := Ne.symm hcab
      have hch7 : w7.cell? ⟨ab', ob' + al, none⟩ = some (.int .u8 ch.toNat) := (World.cell?_of_block (w := w7) (w' := w8) (a := ⟨ab', ob' + al, none⟩) (by rw [hw8]; exact Below.heap_setCell _ _ _ _ hcab2)).symm.trans hch8
      have HW8 := Lib.hid hw8
      have hxs : ∀ u ∈ [xn], u.begin ≠ [] := fun u hu => by simp only [List.mem_singleton] at hu; rw [hu]; exact HX.out.1
      have HSk := Lib.hid (radSeek p8.node hxs (by simp) (by simp) ch)
      have H8 := Lib.hid (And.intro p8 (And.intro hset8 (And.intro hc8 (And.intro hkv8 (And.intro hbs8 (And.intro hxs hch8))))))
      unfold ptrV at s7
      clear hxs p8 hset8 hc8 hkv8 hbs8 hw8 hw8' q5 f5 hroab
      go_wp2_with fail
      rw [← HW8.out]
      refine HSk.out.mono ?_
      rintro e w9 ⟨r, hP, he, hb9⟩
      have hno : ¬ (r < [xn].length ∧ ([xn].map RT.first).getD r 0 = ch) := by
        rintro ⟨h1, h2⟩
        obtain rfl : r = 0 := by simpa using h1
        exact HX.out.2.1 (by simpa using h2)
      rw [decide_eq_false hno] at he
      subst he
      obtain ⟨w10, hw10⟩ : ∃ w10, w10 = w9.alloc (.cells #[.slice (some ⟨ab', ob' + al, none⟩) n3 (c2 - al), .slice none 0 0, vC v] 45) := ⟨_, rfl⟩
      have hz : w10.cell? ⟨w9.heap.size, 0, none⟩ = some (.slice (some ⟨ab', ob' + al, none⟩) n3 (c2 - al)) := by rw [hw10]; exact cell_in (heap_new _ _) rfl
      have hb910 : Below w9.heap.size w9 w10 := by rw [hw10]; exact (Below.refl _ _).alloc (Nat.le_refl _) _
      have hb810 := hb9.trans (hb910.mono hb9.size)
      have hcb10 : w10.cell? ⟨ab', ob' + al, none⟩ = some (.int .u8 ch.toNat) := (hb810.cell (p := ⟨ab', ob' + al, none⟩) (World.block_lt_of_cell? w8 _ hch8)).trans hch8
      have HA2 := Lib.hid (radAdd (H8.out.1.below hb810) (fun e => by have := H8.out.2.2.2.1 _ e; omega) H8.out.2.2.2.2.2.1 (by simp) (by simp) hz hn0 hcb10)
      have HF2 := Lib.hid (fun e w11 => H3.out w8 w9 w11 w5.heap.size kv7 e H8.out.1 H8.out.2.1 H8.out.2.2.1 H8.out.2.2.2.1 HB5.out.size hb9 H8.out.2.2.2.2.1)
      have HW10 := Lib.hid hw10
      clear hz hb910 hb810 hcb10 hw10 hno hP hb9 hch8
      go_wp2_with fail
      rw [← HW10.out]
      refine HA2.out.mono ?_
      rintro e w11 hadd
      have HD := Lib.hid hadd
      obtain ⟨rfl, _⟩ := hadd
      go_wp2_with fail
      go_ret
      exact ⟨rfl, HF2.out _ _ (by rw [← HW10.out]; exact HD.out)⟩
    · have hal : alikeN b s' = b.length := by have := alikeN_le b s'; omega
      have hpre : s'.take b.length = b := alike_full (by omega)
      obtain ⟨s2, hs2⟩ : ∃ s2, s'.drop b.length = s2 := ⟨_, rfl⟩
      have hsp : s' = b ++ s2 := by rw [← hs2]; conv => lhs; rw [← List.take_append_drop b.length s', hpre]
      obtain ⟨n3, hn3⟩ : ∃ n3, n2 - m1 = n3 := ⟨_, rfl⟩
      have hl2 : s2.length = n3 := by rw [← hs2, List.length_drop]; omega
      rw [hal, hm1] at HAl
      have h0 : s2 ≠ [] := fun h0 => by
        rw [hsp, h0, List.append_nil, RT.look, alikeN_self, if_neg (by omega), if_pos (by simp)] at hlkn
        cases hlkn
      have hn0 : 0 < n3 := by rw [← hl2]; exact List.length_pos_iff.2 h0
      obtain ⟨ch, hch⟩ : ∃ ch, s2.getD 0 0 = ch := ⟨_, rfl⟩
      have hcb : wr.cell? ⟨ab', ob' + m1, none⟩ = some (.int .u8 ch.toNat) := by
        rw [hcells m1 (by omega), ← hch, hsp, ← hm1]
        rw [show b.length = b.length + 0 from rfl, getD_back]
      have hwf2 : WFS s2.length k := by rw [hl2, ← hn3, ← hm1, ← hs1]; exact k4
      rw [hsp] at hway
      have hbs2 : BytesRo w4 ro (some ⟨ab', ob' + m1, none⟩) s2 (c2 - m1) := by
        have := hbs.rest (m := m1) (by omega)
        rw [← hm1] at this
        rw [hs2] at this
        rw [← hm1]
        exact this
      have hkid : ∀ r, r < k.length → (k.map RT.first).getD r 0 = ch → ∃ z oi g cap u K', w4.cell? ⟨y, 1, none⟩ = some (.slice (some ⟨g, 0, none⟩) k.length cap) ∧ Way w4 ro p (n + 1) t x own (idBytes ms seq) u z oi s2 (ab ++ [y]) g r K' ∧ g ≠ p := fun r hr hf => by
        obtain ⟨z, oi, g, hk⟩ := kid_of hway.node hr
        obtain ⟨cap, hcap⟩ := hk.slice
        have hd := Way.down (u := k[r]) hway hk (by simp [hr]) h0 (by rw [hch, ← hf]; simp [List.getD, hr])
        refine ⟨z, oi, g, cap, k[r], _, hcap, hd, ?_⟩
        obtain ⟨_, _, kv', _, _, _, _, _, _, hg, _, _, hoo, _⟩ := hk
        have hgo : g ∈ o := by rw [hoo, hg]; simp
        intro e
        have := hway.root.2.2.1
        rw [List.nodup_cons] at this
        exact this.1 (e ▸ hsub.1 g hgo)
      have hseek := fun w' (hb' : Below w4.heap.size w4 w') => radSeek (hway.node.chg (Chg.of_below (fun _ => False) hb') (fun _ _ => id) fun _ _ => id) (fun u hu => (hwf2.mem u hu).1) hwf2.rise (by have := hwf2.few; omega) ch
      have HSk := Lib.hid hseek
      have HKid := Lib.hid hkid
      have e3 : ((n3 : Int) == 0) = false := by simp; omega
      have hle : m1 < n2 := by omega
      have hc2 := hbs.1
      have hcne : ¬ (c2 = m1) := by omega
      have hyw := heap_lt hp.1
      have hfin : ∀ r w5 e w7, Below w4.heap.size w4 w5 → PlaceB (k.map RT.first) ch r → ¬ (r < k.length ∧ (k.map RT.first).getD r 0 = ch) → Added (w5.alloc (.cells #[.slice (some ⟨ab', ob' + m1, none⟩) n3 (c2 - m1), .slice none 0 0, vC v] 45)) b vk k y aa cc kv xs ch w5.heap.size e w7 →
          ∃ G', TreeF w7 p G' (putO (some t) (idBytes ms seq) v) (n + 1) ∧ Fresh w G G' ∧ Chg G w w7 := fun r w5 e w7 hb5 hP hno hadd =>
        put_at hway hp ho hb5 h0 (fun u hu => by rw [hch]; exact place_no hP hwf2.rise (by simpa using hno) _ (List.mem_map.2 ⟨u, hu, rfl⟩)) hl2.symm hbs2 (by rw [hch]; exact hadd) HFr.out.1 HFr.out.2.1 HFr.out.2.2.1 HFr.out.2.2.2.1 HFr.out.2.2.2.2 HT.out.2.1 (idBytes_length ms seq)
      have HFin := Lib.hid hfin
      have hkvy : vblock kv ≠ some y := fun e => by
        have := hsub.2.1
        rw [ho, e] at this; simp at this
      have HAdd := Lib.hid (fun w6 (hb6 : Below w4.heap.size w4 w6) {z q p' m cm : Nat} (hy : w6.cell? ⟨z, 0, none⟩ = some (.slice (some ⟨q, p', none⟩) m cm)) (hm : 0 < m) (hc : w6.cell? ⟨q, p', none⟩ = some (.int .u8 ch.toNat)) =>
        radAdd (hp.below hb6) hkvy (fun u hu => (hwf2.mem u hu).1) hwf2.rise (by have := hwf2.few; omega) hy hm hc)
      have HN3 := Lib.hid (show n3 ≤ 16 ∧ (c = p → n3 ≤ n2) ∧ (c ≠ p → n3 < n2) from ⟨by omega, fun _ => by omega, fun hcp => by
        rcases hemp with h | h
        · exact absurd (hway.top h) hcp
        · have : 0 < b.length := List.length_pos_iff.2 h
          omega⟩)
      have HBs2 := Lib.hid (And.intro hbs2 (And.intro hl2 h0))
      clear hfin hseek hkid hwf2 hbs2 hl2 hlook hwf k1 k2 k3 k4 hp ho hq hcells hway hbs hdep hemp hs1 hne hm1 hal hmlen hba hpb hs2 hsp hpre hge h0 hkvy hsub hlkn hch hroab
      go_wp2_with fail
      refine HAl.out.mono ?_
      rintro e w' ⟨rfl, m, rfl⟩
      go_wp2_with fail
      refine (HSk.out (wr.drewN m) (belowN hB.out m)).mono ?_
      rintro e w5 ⟨r, hP, he, hb5⟩
      have hb45 := (belowN hB.out m).trans (hb5.mono hB.out.size)
      have HB5 := Lib.hid hb45
      rcases Decidable.em (r < k.length ∧ (k.map RT.first).getD r 0 = ch) with hok | hok
      · rw [decide_eq_true hok] at he
        subst he
        obtain ⟨z, oi, g, cap, u, K', hy1, hway, hgp⟩ := HKid.out r hok.1 hok.2
        have y1 : w5.cell? ⟨y, 1, none⟩ = some (.slice (some ⟨g, 0, none⟩) k.length cap) := (hb45.cell (p := ⟨y, 1, none⟩) hyw).trans hy1
        have hrk := hok.1
        have HN : Hid (∃ s' u y o ab K, s'.length = n3 ∧ s' ≠ [] ∧ Way w4 ro p (n + 1) t x own (idBytes ms seq) u y o s' ab g r K ∧ BytesRo w4 ro (some ⟨ab', ob' + m1, none⟩) s' (c2 - m1)) :=
          Lib.hid ⟨s2, u, z, oi, ab ++ [y], _, HBs2.out.2.1, HBs2.out.2.2, hway, HBs2.out.1⟩
        have HGp := Lib.hid hgp
        clear hok hway hb45 hb5 hP hcb hy1 hgp hat q0
        go_wp2_with fail
        go_roundw
        case rel => exact ⟨n3, some ⟨ab', ob' + m1, none⟩, c2 - m1, g, r, HN3.out.1, rfl, rfl, HN, HB5⟩
        case measure =>
          have h1 := HN3.out.2
          simp only [measAt, if_neg HGp.out]
          by_cases hcp : c = p
          · rw [if_pos hcp]; have := h1.1 hcp; omega
          · rw [if_neg hcp]; have := h1.2 hcp; omega
      · rw [decide_eq_false hok] at he
        subst he
        obtain ⟨w6, hw6⟩ : ∃ w6, w6 = w5.alloc (.cells #[.slice (some ⟨ab', ob' + m1, none⟩) n3 (c2 - m1), .slice none 0 0, vC v] 45) := ⟨_, rfl⟩
        have hz : w6.cell? ⟨w5.heap.size, 0, none⟩ = some (.slice (some ⟨ab', ob' + m1, none⟩) n3 (c2 - m1)) := by rw [hw6]; exact cell_in (heap_new _ _) rfl
        have hb56 : Below w5.heap.size w5 w6 := by rw [hw6]; exact (Below.refl _ _).alloc (Nat.le_refl _) _
        have hcb5 : w5.cell? ⟨ab', ob' + m1, none⟩ = some (.int .u8 ch.toNat) := (hb5.cell (p := ⟨ab', ob' + m1, none⟩) hablt).trans hcb
        have hcb6 : w6.cell? ⟨ab', ob' + m1, none⟩ = some (.int .u8 ch.toNat) := (hb56.cell (p := ⟨ab', ob' + m1, none⟩) (World.block_lt_of_cell? w5 _ hcb5)).trans hcb5
        have HA6 := Lib.hid (HAdd.out w6 (hb45.trans (hb56.mono hb45.size)) hz hn0 hcb6)
        have HF6 := Lib.hid (fun e w7 => HFin.out r w5 e w7 hb45 hP hok)
        have HW6 := Lib.hid hw6
        clear hz hb56 hcb5 hcb6 hw6 hok hP hb45 hb5 hcb hat q0
        go_wp2_with fail
        rw [← HW6.out]
        refine HA6.out.mono ?_
        rintro e w7 hadd
        have HD := Lib.hid hadd
        obtain ⟨rfl, _⟩ := hadd
        go_wp2_with fail
        go_ret
        exact ⟨rfl, HF6.out _ _ (by rw [← HW6.out]; exact HD.out)⟩
end Go.Proofs.Ytbjpfnafhhbmaaa.Rad
