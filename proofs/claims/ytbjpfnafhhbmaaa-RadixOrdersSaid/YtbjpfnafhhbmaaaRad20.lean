/- radix: find. -/
import Derived.Test.YtbjpfnafhhbmaaaRad19
namespace Go.Proofs.Ytbjpfnafhhbmaaa.Rad
open Go.Proofs.Ytbjpfnafhhbmaaa
set_option linter.unusedVariables false
set_option linter.unusedSimpArgs false
open Go.RowKit RT
theorem RT.WFS.rise : ∀ {l : List RT} {n : Nat}, WFS n l → (l.map RT.first).Pairwise (· < ·)
  | [], n, _ => by simp
  | t :: l, n, h => by
    rw [WFS] at h
    rw [List.map_cons, List.pairwise_cons]
    exact ⟨fun a ha => by obtain ⟨u, hu, rfl⟩ := List.mem_map.1 ha; exact h.2.2.1 u hu, RT.WFS.rise h.2.2.2⟩
theorem rise_ge {l : List UInt8} (h : l.Pairwise (· < ·)) : ∀ i (hi : i < l.length), i ≤ l[i].toNat
  | 0, _ => Nat.zero_le _
  | i + 1, hi => by
    have h1 := rise_ge h i (by omega)
    have h2 := List.pairwise_iff_getElem.1 h i (i + 1) (by omega) hi (by omega)
    rw [UInt8.lt_iff_toNat_lt] at h2
    omega
theorem RT.WFS.few {l : List RT} {n : Nat} (h : WFS n l) : l.length ≤ 256 := by
  rcases Nat.eq_zero_or_pos l.length with h0 | h0
  · omega
  · have h1 := rise_ge h.rise (l.length - 1) (by simp; omega)
    have h2 := ((l.map RT.first)[l.length - 1]'(by simp; omega)).toNat_lt
    omega
theorem RT.WF.kids {n : Nat} {b : List UInt8} {v : VT} {k : List RT} (h : WF n (.mk b v k)) : b.length ≤ n ∧ (k = [] → b.length = n) ∧ (k ≠ [] → 2 ≤ k.length ∧ v = zT ∧ b.length < n) ∧ WFS (n - b.length) k := by
  rw [WF] at h
  rcases h.2 with ⟨h1, h2⟩ | ⟨h1, h2, h3, h4⟩
  · exact ⟨h.1, fun _ => h2, fun h => absurd h1 h, by rw [h1, WFS]; trivial⟩
  · exact ⟨h.1, fun h => by rw [h] at h1; simp at h1, fun _ => ⟨h1, h2, h3⟩, h4⟩
theorem place_no {fs : List UInt8} {c : UInt8} {r : Nat} (h : PlaceB fs c r) (hr : fs.Pairwise (· < ·)) (hn : ¬ (r < fs.length ∧ fs.getD r 0 = c)) : ∀ f ∈ fs, f ≠ c := by
  rintro f hf rfl
  obtain ⟨i, hi, hfi⟩ := List.getElem_of_mem hf
  have hg : ∀ j, j < fs.length → fs.getD j 0 = fs[j]! := fun j hj => by simp [List.getD, hj]
  have gi : fs.getD i 0 = f := by simp [List.getD, hi, hfi]
  rcases Nat.lt_or_ge i r with h1 | h1
  · have := h.2.1 i h1
    rw [gi, UInt8.lt_iff_toNat_lt] at this; omega
  · have hrl : r < fs.length := by omega
    have h2 := h.2.2 r (Nat.le_refl _) hrl
    rcases Nat.eq_or_lt_of_le h1 with rfl | h3
    · exact hn ⟨hrl, gi⟩
    · have h4 := List.pairwise_iff_getElem.1 hr r i hrl hi h3
      have gr : fs.getD r 0 = fs[r] := by simp [List.getD, hrl]
      rw [gr, UInt8.le_iff_toNat_le] at h2
      rw [hfi, UInt8.lt_iff_toNat_lt] at h4
      omega
theorem KidAt.slice {w : World} {ro : Nat → Prop} {b : List UInt8} {v : VT} {k : List RT} {y : Nat} {o : List Nat} {i z : Nat} {oi : List Nat} {g : Nat} (h : KidAt w ro b v k y o i z oi g) : ∃ cap, w.cell? ⟨y, 1, none⟩ = some (.slice (some ⟨g, 0, none⟩) k.length cap) := by
  obtain ⟨a, ca, kv, xs, pre, post, h1, h2, h3, h4, _⟩ := h
  rcases h3.2 with ⟨rfl, _⟩ | ⟨g', cap, cur, rfl, _⟩
  · cases h4
  · cases h4
    exact ⟨cap, cell_in h1 (i := 1) rfl⟩
theorem getD_back (b s : List UInt8) (i : Nat) : (b ++ s).getD (b.length + i) 0 = s.getD i 0 := by
  simp only [List.getD]
  rw [List.getElem?_append_right (by omega), Nat.add_sub_cancel_left]
/-- What find answers. -/
def FindR (w : World) (ro : Nat → Prop) (p n : Nat) (t : RT) (x : Nat) (own : List Nat) (s : List UInt8) (e : Ending) (w' : World) : Prop :=
  Below w.heap.size w w' ∧ ((RT.look t s = none ∧ e = .returned (.tuple #[.pointer none, .slice none 0 0])) ∨
    ∃ v y o s' ab c d K va, RT.look t s = some v ∧ Way w ro p n t x own s (.mk s' v []) y o s' ab c d K ∧ e = .returned (.tuple #[ptrV y, va]) ∧ SliceIs w' w.heap.size 38 va ab.length (ab.map ptrV))
set_option maxHeartbeats 3200000 in
set_option maxRecDepth 100000 in
theorem radFind {w : World} {ro : Nat → Prop} {p n : Nat} {t : RT} {x : Nat} {own : List Nat} (h : RootAt w ro p n t x own) {s : List UInt8} (hw : RT.WF s.length t) (hs : s ≠ []) (hs2 : s.length ≤ 1000) {a : Option Addr} {ca : Nat} (ha : BytesIn w a s ca) :
    Calls Try.prog 16 #[ptrV p, .slice a s.length ca] w (FindR w ro p n t x own s) := by
  have HH := Lib.hid h
  have HWf := Lib.hid hw
  have c1 := cell_in h.1 (i := 1) rfl
  obtain ⟨n1, hn1⟩ : ∃ n1, s.length = n1 := ⟨_, rfl⟩
  have HA := Lib.hid (And.intro ha (And.intro hs hn1))
  rw [hn1]
  have hn1000 : n1 ≤ 1000 := by omega
  have HS := Lib.hid hs2
  clear h hw hs hs2 ha hn1
  unfold ptrV at *
  go_enter Try.func16, Try.ntmps16
  go_wp2_with fail
  go_loopw [1, 4, 5] (fun bv xv av wr => ∃ (n2 : Nat) (a2 : Option Addr) (c2 : Nat) (y m2 : Nat) (a3 : Option Addr) (c3 : Nat), n2 ≤ 1000 ∧ m2 ≤ n1 + 1 ∧ bv = .slice a2 n2 c2 ∧ xv = .pointer (some ⟨y, 0, none⟩) ∧ av = .slice a3 m2 c3 ∧
    Hid (∃ s' u o ab c d K, s'.length = n2 ∧ ab.length = m2 ∧ s' ≠ [] ∧ Way w ro p n t x own s u y o s' ab c d K ∧ BytesIn w a2 s' c2 ∧ SliceIs wr w.heap.size 38 (.slice a3 m2 c3) m2 (ab.map ptrV)) ∧ Hid (Below w.heap.size w wr)) (fun _ _ v _ => n1 + 2 - (match v with | .slice _ n _ => n | _ => 0))
  case atStart => exact ⟨n1, a, ca, x, 0, none, 0, hn1000, by omega, rfl, rfl, rfl, Lib.hid ⟨s, t, own, [], p, 1, id, HA.out.2.2, rfl, HA.out.2.1, .here HH.out, HA.out.1, SliceIs.nil _ _ _⟩, Lib.hid (Below.refl _ _)⟩
  case round =>
    obtain ⟨n2, a2, c2, y, m2, a3, c3, hn2, hm2, rfl, rfl, rfl, hI, hB⟩ := hrel
    obtain ⟨s', ⟨b, v, k⟩, o, ab, c, d, K, hs1, hab, hne, hway, hbi, hsl⟩ := hI.out
    clear hI c1
    obtain ⟨hwf, hlook, _, _, _, hdep, _⟩ := hway.plain HWf.out
    obtain ⟨k1, k2, k3, k4⟩ := hwf.kids
    obtain ⟨aa, cc, kv, xs, rows, hp, ho⟩ := parts_of hway.node
    have hm := HA.out.2.2
    have hpb := hp.2.1.bytes.below hB.out
    have hba := hbi.below hB.out
    obtain ⟨ab', ob', rfl, hcells⟩ := hba.2.resolve_left (fun h => hne (List.eq_nil_of_length_eq_zero h))
    have hq := (hB.out.block y (heap_lt hp.1)).trans hp.1
    have hc2 := hba.1
    have HAl := Lib.hid (alike_any hpb hba (by omega) (by omega))
    have hmlen : b.length ≤ s'.length := k1
    obtain ⟨m1, hm1⟩ : ∃ m1, b.length = m1 := ⟨_, rfl⟩
    rw [hm1, hs1] at HAl
    rw [hm1] at hq
    have q0 := cell_in hq (i := 0) rfl
    have q1 := cell_in hq (i := 1) rfl
    rcases Nat.lt_or_ge (alikeN b s') b.length with hlt | hge
    · have hno : RT.look t s = none := by rw [hlook, RT.look, if_pos hlt]
      have HNo := Lib.hid hno
      obtain ⟨al, hal⟩ : ∃ al, alikeN b s' = al := ⟨_, rfl⟩
      rw [hal] at HAl
      rw [hal, hm1] at hlt
      have e1 := decide_eq_true hlt
      clear hno hlook hwf k1 k2 k3 k4 hp ho hq hcells hway hbi hsl hdep hab hs1 hne hm hm1 hal hlt hmlen hba hpb
      go_wp2_with fail
      refine HAl.out.mono ?_
      rintro e w' ⟨rfl, m, rfl⟩
      go_wp2_with fail
      go_ret2
      exact ⟨belowN hB.out _, .inl ⟨HNo.out, rfl⟩⟩
    · have hal : alikeN b s' = b.length := by have := alikeN_le b s'; omega
      have hpre : s'.take b.length = b := alike_full (by omega)
      obtain ⟨s2, hs2⟩ : ∃ s2, s'.drop b.length = s2 := ⟨_, rfl⟩
      have hsp : s' = b ++ s2 := by rw [← hs2]; conv => lhs; rw [← List.take_append_drop b.length s', hpre]
      obtain ⟨n3, hn3⟩ : ∃ n3, n2 - m1 = n3 := ⟨_, rfl⟩
      have hl2 : s2.length = n3 := by rw [← hs2, List.length_drop]; omega
      rw [hal, hm1] at HAl
      rcases Decidable.em (s2 = []) with h0 | h0
      · have hk : k = [] := Decidable.byContradiction fun h => by
          have := (k3 h).2.2
          rw [hsp, h0] at this; simp at this
        subst hk
        have hb' : b = s' := by rw [hsp, h0, List.append_nil]
        have hF : RT.look t s = some v := by
          rw [hlook, ← hb', RT.look, if_neg (by rw [hb'] at hal ⊢; omega), if_pos (by simp)]
        have HFd := Lib.hid (show ∃ v y' o s' ab c d K va, RT.look t s = some v ∧ Way w ro p n t x own s (.mk s' v []) y' o s' ab c d K ∧ Ending.returned (.tuple #[.pointer (some ⟨y, 0, none⟩), .slice a3 m2 c3]) = .returned (.tuple #[ptrV y', va]) ∧ SliceIs wr w.heap.size 38 va ab.length (ab.map ptrV) from
          ⟨v, y, o, s', ab, c, d, K, _, hF, by rw [hb'] at hway; exact hway, rfl, by rw [hab]; exact hsl⟩)
        have e0 : n3 = 0 := by rw [← hl2, h0]; rfl
        have e3 : ((n3 : Int) == 0) = true := by simp [e0]
        have hle : m1 ≤ n2 := by omega
        clear hF hb' hlook hwf k1 k2 k3 k4 hp ho hq hcells hway hbi hsl hdep hab hs1 hne hm hm1 hal hmlen hba hpb hs2 hsp hl2 hpre hge h0 e0
        go_wp2_with fail
        refine HAl.out.mono ?_
        rintro e w' ⟨rfl, m, rfl⟩
        go_wp2_with fail
        all_goals
          go_ret2
          obtain ⟨v, y', o, s', ab, c, d, K, va, q1, q2, q3, q4⟩ := HFd.out
          exact ⟨belowN hB.out _, .inr ⟨v, y', o, s', ab, c, d, K, va, q1, q2, q3, q4⟩⟩
      · have hk : k ≠ [] := fun h => by
          have := k2 h
          exact h0 (List.eq_nil_of_length_eq_zero (by omega))
        have hn0 : 0 < n3 := by rw [← hl2]; exact List.length_pos_iff.2 h0
        obtain ⟨ch, hch⟩ : ∃ ch, s2.getD 0 0 = ch := ⟨_, rfl⟩
        have hcb : wr.cell? ⟨ab', ob' + m1, none⟩ = some (.int .u8 ch.toNat) := by
          rw [hcells m1 (by omega), ← hch, hsp, ← hm1]
          rw [show b.length = b.length + 0 from rfl, getD_back]
        have hwf2 : WFS s2.length k := by rw [hl2, ← hn3, ← hm1, ← hs1]; exact k4
        have hlk : RT.look t s = lookS k s2 := by rw [hlook, hsp, look_append, if_neg h0]
        have hbi2 : BytesIn w (some ⟨ab', ob' + m1, none⟩) s2 (c2 - m1) := by
          refine ⟨by omega, .inr ⟨ab', ob' + m1, rfl, fun i hi => ?_⟩⟩
          obtain ⟨_, _, e, hc⟩ := hbi.2.resolve_left (by omega)
          cases e
          have := hc (m1 + i) (by omega)
          rw [Nat.add_assoc, this, hsp, ← hm1, getD_back]
        have HSk := fun w' (hb' : Below w.heap.size w w') => radSeek (hway.node.chg (Chg.of_below (fun _ => False) hb') (fun _ _ => id) fun _ _ => id) (fun u hu => (hwf2.mem u hu).1) hwf2.rise (by have := hwf2.few; omega) ch
        have hkid : ∀ r, r < k.length → (k.map RT.first).getD r 0 = ch → ∃ z oi g cap u K', w.cell? ⟨y, 1, none⟩ = some (.slice (some ⟨g, 0, none⟩) k.length cap) ∧ Way w ro p n t x own s u z oi s2 (ab ++ [y]) g r K' := fun r hr hf => by
          rw [hsp] at hway
          obtain ⟨z, oi, g, hk⟩ := kid_of hway.node hr
          obtain ⟨cap, hcap⟩ := hk.slice
          refine ⟨z, oi, g, cap, k[r], _, hcap, .down hway hk (by simp [hr]) h0 ?_⟩
          rw [hch, ← hf]; simp [List.getD, hr]
        have hnone : ∀ r, PlaceB (k.map RT.first) ch r → ¬ (r < k.length ∧ (k.map RT.first).getD r 0 = ch) → RT.look t s = none := fun r hP hn => by
          rw [hlk]
          refine lookS_none fun u hu => ?_
          rw [hch]
          exact (place_no hP hwf2.rise (by simpa using hn) _ (List.mem_map.2 ⟨u, hu, rfl⟩)).symm
        have HSk := Lib.hid HSk
        have HKid := Lib.hid hkid
        have HNone := Lib.hid hnone
        have HSl := Lib.hid hsl
        have HBi := Lib.hid (And.intro hbi2 (And.intro hl2 (And.intro hab h0)))
        have e3 : ((n3 : Int) == 0) = false := by simp; omega
        have hle : m1 < n2 := by omega
        have hcne : ¬ (c2 = m1) := by omega
        have hyw := heap_lt hp.1
        have hbw : ab' < w.heap.size := by
          obtain ⟨_, _, e, hc⟩ := hbi.2.resolve_left (by omega)
          cases e
          exact World.block_lt_of_cell? w _ (hc 0 (by omega))
        have hml : m2 ≤ n1 := by omega
        clear hnone hkid hwf2 hlk hbi2 hl2 hlook hwf k1 k2 k3 k4 hp ho hq hcells hway hbi hsl hdep hab hs1 hne hm hm1 hal hmlen hba hpb hs2 hsp hpre hge h0 hk
        go_wp2_with fail
        refine HAl.out.mono ?_
        rintro e w' ⟨rfl, m, rfl⟩
        obtain ⟨i0, g1, g2, g3, g4⟩ := info_parts info_node
        obtain ⟨va, w2, r2, s3, b2⟩ := run_append_one (P := Try.prog) (w := wr.drewN m) (t := 43) (ty := 43) Try.underlying43 g1 g2 g3 g4 rfl HSl.out hB.out.size (ptrV y) rfl (by unfold maxLen; omega) (by omega)
        unfold ptrV at r2
        have HR2 := Lib.hid r2
        have hb2 := (belowN hB.out m).trans b2
        obtain ⟨a4, c4, rfl, _⟩ := s3.arg
        have HS3 := Lib.hid (And.intro s3 hb2)
        have hcb2 : w2.cell? ⟨ab', ob' + m1, none⟩ = some (.int .u8 ch.toNat) := (b2.cell (p := ⟨ab', ob' + m1, none⟩) hbw).trans hcb
        clear g1 g2 g3 g4 r2 s3 b2 hb2
        go_wp2_with (at_builtin; refine wpList_append_run rfl rfl HR2.out ?_)
        refine (HSk.out w2 HS3.out.2).mono ?_
        rintro e w3 ⟨r, hP, he, hb3⟩
        have hb23 := HS3.out.2.trans (hb3.mono HS3.out.2.size)
        have HB23 := Lib.hid (And.intro hb23 (HS3.out.1.below hb3))
        rcases Decidable.em (r < k.length ∧ (k.map RT.first).getD r 0 = ch) with hok | hok
        · rw [decide_eq_true hok] at he
          subst he
          obtain ⟨z, oi, g, cap, u, K', hy1, hway⟩ := HKid.out r hok.1 hok.2
          have hg := hway.cell.1
          have y1 : w3.cell? ⟨y, 1, none⟩ = some (.slice (some ⟨g, 0, none⟩) k.length cap) := (hb23.cell (p := ⟨y, 1, none⟩) hyw).trans hy1
          have gz : w3.cell? ⟨g, r, none⟩ = some (.pointer (some ⟨z, 0, none⟩)) := (hb23.cell (p := ⟨g, r, none⟩) (World.block_lt_of_cell? w _ hg)).trans hg
          have hrk := hok.1
          have HN : Hid (∃ s' u o ab c d K, s'.length = n3 ∧ ab.length = m2 + 1 ∧ s' ≠ [] ∧ Way w ro p n t x own s u z o s' ab c d K ∧ BytesIn w (some ⟨ab', ob' + m1, none⟩) s' (c2 - m1) ∧ SliceIs w3 w.heap.size 38 (.slice a4 (m2 + 1) c4) (m2 + 1) (ab.map ptrV)) :=
            Lib.hid ⟨s2, u, oi, ab ++ [y], g, r, _, HBi.out.2.1, by simp [HBi.out.2.2.1], HBi.out.2.2.2, hway, HBi.out.1, by have := HB23.out.2; rw [List.map_append]; exact this⟩
          clear hok hway hg hb23 hb3 hP hcb2 hcb hy1
          go_wp2_with fail
          go_roundw
          case rel => exact ⟨n3, some ⟨ab', ob' + m1, none⟩, c2 - m1, z, m2 + 1, a4, c4, by omega, by omega, rfl, rfl, rfl, HN, Lib.hid HB23.out.1⟩
          case measure => simp; omega
        · have hno := HNone.out r hP hok
          have HNo := Lib.hid hno
          rw [decide_eq_false hok] at he
          subst he
          clear hno hok hP hb23 hb3 hcb2 hcb
          go_wp2_with fail
          go_ret2
          exact ⟨HB23.out.1, .inl ⟨HNo.out, rfl⟩⟩
end Go.Proofs.Ytbjpfnafhhbmaaa.Rad
