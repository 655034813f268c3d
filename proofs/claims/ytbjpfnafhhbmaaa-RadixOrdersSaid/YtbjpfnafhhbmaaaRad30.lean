/- radix: Delete of one among others. -/
import Derived.Test.YtbjpfnafhhbmaaaRad29
import Derived.Deep.Cut
namespace Go.Proofs.Ytbjpfnafhhbmaaa.Rad
open Go.Proofs.Ytbjpfnafhhbmaaa
set_option linter.unusedVariables false
set_option linter.unusedSimpArgs false
open Go.RowKit RT
theorem SliceIs.two {w : World} {B : Nat} {e : TypeId} {g n cap : Nat} {xs : List Value} (h : SliceIs w B e (.slice (some ⟨g, 0, none⟩) n cap) n xs) {i : Nat} (hi : i < n) : w.cell? ⟨g, i, none⟩ = some (xs.getD i undef) := by
  obtain ⟨hl, hx⟩ := h
  obtain ⟨g', cap', cur, he, _, hrow, hcs, hnc, hcm, htk⟩ := hx.resolve_left (by simp)
  cases he
  refine hrow.cell ?_
  have e := congrArg (fun l => l[i]?) htk
  simp only [List.getElem?_take_of_lt hi, Array.getElem?_toList] at e
  rw [e]; simp [List.getD, show i < xs.length by omega]
set_option maxHeartbeats 6400000 in
set_option maxRecDepth 100000 in
theorem radDel_in {w : World} {p : Nat} {G : Nat → Prop} {t : RT} {n : Nat} (h : TreeF w p G (some t) n) {ms seq : Nat} (h1 : ms < 18446744073709551616) (h2 : seq < 18446744073709551616) (hn : n ≤ 1000000000) (hn0 : 0 < n) (hl : (RT.look t (idBytes ms seq)).isSome = true) (hk : t.kids ≠ []) :
    Calls Try.prog 11 #[ptrV p, .agg #[.int .u64 ms, .int .u64 seq]] w (Deleted w p G (some t) n (idBytes ms seq)) := by
  have HF := Lib.hid (fun w' (hb : Below w.heap.size w w') a ca (ha : BytesIn w' a (idBytes ms seq) ca) => radFindF (h.below hb) (idBytes_length ms seq) ha)
  have HBy := Lib.hid (fun w => bytes_any ms seq h1 h2 w)
  obtain ⟨w1, hw1⟩ : ∃ w1, w1 = w.alloc (.cells #[.int .u64 ms, .int .u64 seq] 25) := ⟨_, rfl⟩
  have hb1 : Below w.heap.size w w1 := by rw [hw1]; exact (Below.refl _ _).alloc (Nat.le_refl _) _
  have HW := Lib.hid hw1
  have HB1 := Lib.hid hb1
  have HT := Lib.hid h
  have HL := Lib.hid (And.intro hl hk)
  clear h h1 h2 hw1 hb1 hl hk
  unfold ptrV
  go_enter Try.func11, Try.ntmps11
  go_wp2_with fail
  rw [← HW.out]
  refine (HBy.out _).mono ?_
  rintro e w2 ⟨bv, rfl, hs, hb⟩
  obtain ⟨a, ca, rfl, hbi⟩ := slice_bytes hs
  have HB2 := Lib.hid (HB1.out.trans (hb.mono HB1.out.size))
  have HBi := Lib.hid hbi
  clear hs hb hbi
  go_wp2_with fail
  refine (HF.out w2 HB2.out a ca HBi.out).mono ?_
  rintro e w3 ⟨hb3, hcase⟩
  have HB3 := Lib.hid (HB2.out.trans (hb3.mono HB2.out.size))
  obtain ⟨ro, t', x, own, v, z, oz, s', ab, g, i, K, va, hT, hw, hG, hlk, hway, rfl, hsl⟩ := hcase.resolve_left (fun h => by
    have := h.1
    rw [show lookO (some t) (idBytes ms seq) = RT.look t (idBytes ms seq) from rfl] at this
    have h2 := HL.out.1
    rw [this] at h2; cases h2)
  cases hT
  have hab : ab ≠ [] := fun hab => by
    have := hway.roots hab
    exact HL.out.2 (by rw [← this]; rfl)
  obtain ⟨b, vk, k, y, o, ab', c, d, K', hup, hkid, hki, hs0, hfirst, hab'⟩ := hway.up hab
  have hGl : ∀ k, G k → k < w.heap.size := HT.out.1
  have hr3 := hup.root.chg (Chg.of_below (fun _ => False) hb3) (fun _ _ => id) fun _ _ => id
  have h3 := hr3.1
  obtain ⟨w4, hw4⟩ : ∃ w4, w4 = w3.setCell ⟨p, 2, none⟩ (.int .i64 ((n : Int) - 1)) := ⟨_, rfl⟩
  have h34 : Chg (fun j => j = p) w3 w4 := by rw [hw4]; exact Chg.setCell _ _ _ _ rfl
  have hc24 : Chg (fun j => j = p) w2 w4 := (Chg.of_below _ hb3).trans h34 fun _ h _ => h
  have hpo : ∀ q ∈ own, q ≠ p ∧ ¬ ro q ∧ q < w2.heap.size := fun q hq => ⟨fun e => (List.nodup_cons.1 hup.root.2.2.1).1 (e ▸ hq), (hup.root.2.2.2 q (by simp [hq])).1, (hup.root.2.2.2 q (by simp [hq])).2⟩
  have hpro : ¬ ro p := (hup.root.2.2.2 p (by simp)).1
  have hroot4 : RootAt w4 ro p (n - 1) t x own := by
    refine ⟨?_, hup.root.2.1.chg hc24 (fun j hj e => hpro (e ▸ hj)) fun q hq => (hpo q hq).1, hup.root.2.2.1, fun q hq => ⟨(hup.root.2.2.2 q hq).1, Nat.lt_of_lt_of_le (hup.root.2.2.2 q hq).2 hc24.size⟩⟩
    rw [hw4, setCell_head h3 2 _]
    simp
    omega
  have hw4up := hup.count hroot4 hc24
  have hpl := hw4up.plain (by rw [idBytes_length]; exact hw)
  obtain ⟨k1, k2, k3, k4⟩ := hpl.1.kids
  have hid : i < k.length := by
    rcases Nat.lt_or_ge i k.length with h | h
    · exact h
    · rw [List.getElem?_eq_none h] at hki; cases hki
  have hk2 := k3 (fun e => by rw [e] at hid; simp at hid)
  have hwfk : WFS s'.length k := by
    have := k4
    rw [List.length_append, Nat.add_sub_cancel_left] at this
    exact this
  have hdel : RT.del t (idBytes ms seq) = K' (join b vk (k.eraseIdx i)) := by
    rw [hpl.2.2.2.1 (fun e => by rw [show (RT.mk b vk k).kids = k from rfl] at e; rw [e] at hid; simp at hid), RT.del]
    rw [show (b ++ s').drop b.length = s' by simp, RT.delS_get hwfk hki hfirst]
    exact congrArg (fun l => K' (join b vk l)) (if_pos rfl)
  have hwdel : WF 16 (K' (join b vk (k.eraseIdx i))) := by rw [← hdel]; exact WF_del hw HL.out.2 (idBytes_length ms seq) HL.out.1
  obtain ⟨aa, cc, kv, xs, rows, hp, ho⟩ := parts_of hw4up.node
  have hxl : xs.length = k.length := NodesAt.length hp.2.2.2
  have hsub := hw4up.sub
  have hyo : y ∈ o := by rw [ho]; simp
  have hyx := hpo y (hsub.1 y hyo)
  obtain ⟨g1, cap, cur, hkv, _, _, _, hcap, hcapm, _⟩ := hp.2.2.1.2.resolve_left (by omega)
  subst hkv
  have hgo : g1 ∈ o := by rw [ho]; simp [vblock]
  have hgy : g1 ≠ y := fun e => by
    have := hsub.2.1
    rw [ho, List.nodup_cons] at this
    exact this.1 (by simp [vblock, e])
  -- the leaf
  have hz := hway.node
  obtain ⟨za, zc, zkv, zxs, zrows, hzp, hzo⟩ := parts_of hz
  obtain ⟨zb, zq, rfl, hzro, hzlt, hzc⟩ := hzp.2.1.2.resolve_left (by have := List.length_pos_iff.2 hs0; omega)
  obtain ⟨ch, hch⟩ : ∃ ch, s'.getD 0 0 = ch := ⟨_, rfl⟩
  have hzi : z ∈ own := hway.sub.1 z (by rw [hzo]; simp)
  have z0 : w4.cell? ⟨z, 0, none⟩ = some (.slice (some ⟨zb, zq, none⟩) s'.length zc) := cell_in (hc24.keep hzp.1 (hpo z hzi).1) (i := 0) rfl
  have zch : w4.cell? ⟨zb, zq, none⟩ = some (.int .u8 ch.toNat) := by
    have := ((hzp.2.1).chg hc24 (fun j hj e => hpro (e ▸ hj))).2.resolve_left (by have := List.length_pos_iff.2 hs0; omega)
    obtain ⟨b', o', e, _, _, hc⟩ := this
    cases e
    have := hc 0 (List.length_pos_iff.2 hs0)
    rw [Nat.add_zero, hch] at this
    exact this
  -- what lies above
  obtain ⟨q, hq⟩ : ∃ q, q = ab'.length := ⟨_, rfl⟩
  have hqb : q ≤ 17 := by have := hpl.2.2.2.2.2.1; rw [idBytes_length] at this; omega
  have habl : ab.length = q + 1 := by rw [hab', hq]; simp
  rw [habl] at hsl
  obtain ⟨a5, c5, hva, _⟩ := hsl.arg
  subst hva
  obtain ⟨g5, cap5, cur5, he5, hg5, _⟩ := hsl.2.resolve_left (by simp)
  cases he5
  have hp2 : p < w2.heap.size := heap_lt hup.root.1
  have hsl4 := hsl.chg h34 fun j hj e => by simp [vblock] at hj; omega
  have habv : w4.cell? ⟨g5, q, none⟩ = some (.pointer (some ⟨y, 0, none⟩)) := by
    rw [SliceIs.two hsl4 (i := q) (by omega), hab']
    simp [List.getD, hq, ptrV]
  have hsk := radSeek hw4up.node (fun u hu => (hwfk.mem u hu).1) hwfk.rise (by have := hwfk.few; omega) ch
  have hri : ∀ r, PlaceB (k.map RT.first) ch r → r = i := fun r hP => place_at hP hwfk.rise (by simpa using hid) (by
    obtain ⟨hh, e⟩ := List.getElem?_eq_some_iff.1 hki
    rw [← hch, ← hfirst]; simp [List.getD, hid, e])
  have hfew := hwfk.few
  have hGr : ∀ j, ro j → (G j ∨ w.heap.size ≤ j) ∧ j < w4.heap.size := fun j hj => by
    have h := hG j (.inr (.inr hj))
    exact ⟨.inl h, by have := hGl j h; have := HB2.out.size; have := hc24.size; omega⟩
  have hG4 : Chg G w w4 := ((Chg.of_below (fun j => j = p) HB2.out).trans hc24 fun _ h _ => h).mono fun j hj _ => hj ▸ hG p (.inl rfl)
  have HFr := Lib.hid (show G p ∧ (∀ k ∈ own, G k) ∧ (∀ k, ro k → (G k ∨ w.heap.size ≤ k) ∧ k < w4.heap.size) ∧ (∀ k, G k → k < w.heap.size) ∧ Chg G w w4 from ⟨hG p (.inl rfl), fun k hk => hG k (.inr (.inl hk)), hGr, hGl, hG4⟩)
  have HUp := Lib.hid (And.intro hw4up (And.intro hp (And.intro ho (And.intro hdel hwdel))))
  have d2 := cell_in h3 (i := 2) rfl
  have f2 := frozen_in h3 2
  have HW4 := Lib.hid hw4
  have HSk := Lib.hid hsk
  have HRi := Lib.hid hri
  have e5 : (((q : Int) + 1) == 0) = false := by simp; omega
  obtain ⟨n0, hn0'⟩ : ∃ n0, s'.length = n0 := ⟨_, rfl⟩
  have hn0p : 0 < n0 := by have := List.length_pos_iff.2 hs0; omega
  obtain ⟨kl, hkl⟩ : ∃ kl, k.length = kl := ⟨_, rfl⟩
  obtain ⟨bl, hbl⟩ : ∃ bl, b.length = bl := ⟨_, rfl⟩
  rw [hn0'] at z0
  have hp1 := hp.1
  rw [hkl, hbl] at hp1
  have hs4 := hp.2.2.1
  rw [hkl] at hs4 hid hfew hcap
  have hk2' := hk2.1
  rw [hkl] at hk2'
  have HS4 := Lib.hid hs4
  have HP1 := Lib.hid hp1
  have HKl := Lib.hid (And.intro hkl (And.intro hbl hxl))
  have HWk := Lib.hid (And.intro hwfk hki)
  have HOwn := Lib.hid (And.intro hlk hpo)
  have HOr := Lib.hid (show vblock (.slice (some ⟨g1, 0, none⟩) kl cap) = some g1 ∧ g1 ≠ y ∧ y < w4.heap.size ∧ g1 < w4.heap.size from ⟨rfl, hgy, heap_lt hp.1, (hs4.block_lt rfl).2⟩)
  clear hsl4 hGr hG4 hri hsk hfirst hki hwfk hk2 hdel hwdel hpl hw4up hroot4 hup hkid hway hlk hG hw hsl hz hzp hzo hzc hzro hzlt hp ho hsub hyo hyx hgo hgy hp1 hs4 hc24 h34 hr3 h3 hb3 hw4 hpo hzi habl hq hab' hcapm hxl hkl hbl hs0 hch hn0' k1 k2 k3 k4 hGl hg5 hab
  go_upto_region 5 with (fail)
  rw [← HW4.out]
  go_wp2_with fail
  refine HSk.out.mono ?_
  rintro e w5 ⟨r, hP, rfl, hb5⟩
  obtain rfl : r = i := HRi.out r hP
  have hy5 : w5.heap[y]? = some (.cells #[.slice aa bl cc, .slice (some ⟨g1, 0, none⟩) kl cap, vC vk] 45 (0, 0)) := (hb5.block y HOr.out.2.2.1).trans HP1.out
  have hs5 := HS4.out.chg (Chg.of_below (fun _ => False) hb5) fun _ _ => id
  obtain ⟨i0, q1, q2, q3, q4⟩ := info_parts info_node
  obtain ⟨kv', w6, hr6, hs6, hc6, hv6⟩ := run_erase (t := 43) (ty := 43) (w := w5.drewN 1) Try.underlying43 q1 q2 q3 q4 rfl hs5 (i := r) hid (fun u hu => by obtain ⟨z, _, rfl⟩ := List.mem_map.1 hu; rfl) (by omega) (by omega)
  have hy6 : w6.heap[y]? = some (.cells #[.slice aa bl cc, .slice (some ⟨g1, 0, none⟩) kl cap, vC vk] 45 (0, 0)) := hc6.keep (w := w5.drewN 1) hy5 (fun e => HOr.out.2.1 e.symm)
  obtain ⟨g6, cap6, cur6, rfl, _, _, _, hcap6, _, _⟩ := hs6.2.resolve_left (by omega)
  obtain ⟨w7, hw7⟩ : ∃ w7, w7 = w6.setCell ⟨y, 1, none⟩ (.slice (some ⟨g6, 0, none⟩) (kl - 1) cap6) := ⟨_, rfl⟩
  have hy7 : w7.heap[y]? = some (.cells #[.slice aa bl cc, .slice (some ⟨g6, 0, none⟩) (kl - 1) cap6, vC vk] 45 (0, 0)) := by rw [hw7]; exact setCell_head hy6 1 _
  have hg6 : g6 = g1 ∨ w5.heap.size ≤ g6 := by
    rcases hv6 with h | ⟨g', h, h'⟩
    · left; simpa [vblock] using h
    · right; obtain rfl : g6 = g' := by simpa [vblock] using h
      exact h'
  have hsz5 := hb5.size
  have hg6y : g6 ≠ y := by
    have := HOr.out
    rcases hg6 with rfl | h
    · exact this.2.1
    · omega
  have h67 : Chg (fun j => j = y) w6 w7 := by rw [hw7]; exact Chg.setCell _ _ _ _ rfl
  have hs7 := hs6.chg h67 fun j hj e => by simp [vblock] at hj; omega
  have hc7 : Chg (fun j => j = y ∨ j = g1) w4 w7 := (((Chg.of_below (fun j => j = y ∨ j = g1) hb5).trans (Chg.drewN (fun j => j = y ∨ j = g1) w5 1) fun _ h _ => h).trans hc6 fun _ h _ => .inr h).trans h67 fun _ h _ => .inl h
  have y51 := cell_in hy5 (i := 1) rfl
  have y61 := cell_in hy6 (i := 1) rfl
  have fy6 := frozen_in hy6 1
  have HR6 := Lib.hid hr6
  have HW7 := Lib.hid hw7
  have H7 := Lib.hid (And.intro hy7 (And.intro hs7 (And.intro hc7 hg6)))
  have y70 := cell_in hy7 (i := 0) rfl
  have y71 := cell_in hy7 (i := 1) rfl
  obtain ⟨X1, f, hX1, hf, hF⟩ := classOf (fun w => w.cell? ⟨y, 1, none⟩ = some (.slice (some ⟨g1, 0, none⟩) kl cap)) y51
  have HF1 := Lib.hid (hF w5.drew y51)
  have HF2 := Lib.hid (hF w6 y61)
  have hzf : Hid (w7.cell? ⟨g6, 0, none⟩ = some (((xs.map ptrV).eraseIdx r).getD 0 undef)) := Lib.hid (SliceIs.two hs7 (by omega))
  clear hF hy7 hs7 hc7 hg6 hw7 hr6 hy6 hs6 hc6 hv6 hs5 hy5 hb5 hP q1 q2 q3 q4 h67 z0 zch habv y51 d2 f2
  go_wp2_with fail
  refine wp_region_text ⟨[14, 17], [], 17⟩ (fun w' => ∃ x : X1, w' = f x) (by kernel_rfl) (by kernel_rfl) HF1.out ?_
  refine wpC_seg false (HF1.out) 14 0 _ _ (by rfl) (by rfl) ?_
  simp only [List.take_succ_cons, List.take_zero, List.drop_succ_cons, List.drop_zero, Bool.false_eq_true, if_false, Nat.zero_add, Nat.reduceAdd]
  repeat (go_big_quiet_step (fail))
  refine wpQuiet_nil ?_
  refine wpC_value (by rfl) (by rfl) (exec_append rfl HR6.out) (fun _ => HF2.out) ?_
  generalize (if cap = r + 1 then some (⟨g1, 0, none⟩ : Addr) else some ⟨g1, r + 1, none⟩) = adr
  simp only [Act.put, List.setIfInBounds_toArray, List.set_cons_succ, List.set_cons_zero]
  refine wpC_seg false (HF2.out) 2 15 _ _ (by rfl) (by rfl) ?_
  simp only [List.take_succ_cons, List.take_zero, List.drop_succ_cons, List.drop_zero, Bool.false_eq_true, if_false, Nat.zero_add, Nat.reduceAdd]
  repeat (go_big_quiet_step (fail))
  refine wpQuiet_nil ?_
  refine wpC_loud (by rfl) (by rfl) fun K hK => ?_
  go_wp2_with fail
  rw [← HW7.out]
  refine hK _ _ (fun h => absurd h (by decide)) ?_
  refine wpC_nil ?_
  clear hK hf hX1 HF1 HF2 f y61 fy6
  rcases Nat.lt_or_ge 2 kl with hk3 | hk3
  · have e1 : ((((kl - 1 : Nat) : Int)) == 1) = false := by simp; omega
    go_wp2_with fail
    go_ret
    refine Deleted.yes HL.out.1 ?_
    obtain ⟨hkl, hbl, hxl⟩ := HKl.out
    obtain ⟨hup, hp, ho, hdel, hwdel⟩ := HUp.out
    rw [RT.join_two (by rw [List.length_eraseIdx, if_pos (by omega)]; omega)] at hdel hwdel
    have hd : delO (some t) (idBytes ms seq) = some (K' (.mk b vk (k.eraseIdx r))) := by
      show (if t.kids.isEmpty then none else some (RT.del t (idBytes ms seq))) = _
      rw [if_neg (by simpa using HL.out.2), hdel]
    rw [hd]
    obtain ⟨f1, f2, f3, f4, f5⟩ := HFr.out
    refine del_at (kv' := .slice (some ⟨g6, 0, none⟩) (kl - 1) cap6) hup hp ho (by omega) (by rw [hbl]; exact H7.out.1) (by rw [hkl]; exact H7.out.2.1) ?_ (H7.out.2.2.1.mono fun j hj _ => hj.imp id fun h => by rw [h]; rfl) f1 f2 f3 f4 f5 hwdel
    rcases H7.out.2.2.2 with h | h
    · exact .inl (by rw [h]; rfl)
    · exact .inr ⟨g6, rfl, by omega⟩
  · obtain rfl : kl = 2 := by omega
    obtain ⟨hkl, hbl, hxl⟩ := HKl.out
    obtain ⟨hup, hp, ho, hdel, hwdel⟩ := HUp.out
    obtain ⟨pre, oi, post, hpp, her⟩ := NodesAt.erase hp.2.2.2 r (by omega)
    obtain ⟨u2, hu2⟩ : ∃ u2, k.eraseIdx r = [u2] := List.length_eq_one_iff.1 (by rw [List.length_eraseIdx, if_pos (by omega)]; omega)
    obtain ⟨z2, hz2⟩ : ∃ z2, xs.eraseIdx r = [z2] := List.length_eq_one_iff.1 (by rw [List.length_eraseIdx, if_pos (by omega)]; omega)
    rw [hu2, hz2, NodesAt] at her
    obtain ⟨_, _, o1, o2, he, hn2, hnn, ho2⟩ := her
    cases he
    rw [NodesAt] at hnn
    obtain ⟨_, rfl⟩ := hnn
    obtain ⟨b2, v2, k2⟩ := u2
    obtain ⟨a2, c2, kv2, xs2, rows2, hp2, ho1⟩ := parts_of hn2
    rw [List.append_nil] at ho2
    have hin : ∀ q ∈ (z2 :: ((vblock kv2).toList ++ rows2)), q ∈ rows := fun q hq => by
      rw [← ho1, ← ho2] at hq
      rw [hpp]
      simp only [List.mem_append] at hq ⊢
      exact hq.imp id .inr
    have hnd := hup.sub.2.1
    rw [ho, List.nodup_cons, List.nodup_append] at hnd
    obtain ⟨n1, _, n3, n4⟩ := hnd
    have hnd2 : (z2 :: ((vblock kv2).toList ++ rows2)).Nodup := by
      rw [← ho1, ← ho2]
      rw [hpp, List.nodup_append, List.nodup_append] at n3
      rw [List.nodup_append]
      exact ⟨n3.1, n3.2.1.2.1, fun q hq q' hq' => n3.2.2 q hq q' (by simp [hq'])⟩
    have hb2 : b2 ≠ [] := (HWk.out.1.mem (.mk b2 v2 k2) (List.mem_of_mem_eraseIdx (by rw [hu2]; simp))).1
    have hz2r := hin z2 (by simp)
    have hz2y : z2 ≠ y := fun e => n1 (by simp [← e, hz2r])
    have hz2g : z2 ≠ g1 := fun e => n4 g1 (by simp [vblock]) z2 hz2r e.symm
    have hz7 : w7.heap[z2]? = some (.cells #[.slice a2 b2.length c2, kv2, vC v2] 45 (0, 0)) := H7.out.2.2.1.keep hp2.1 (by rw [not_or]; exact ⟨hz2y, hz2g⟩)
    have hg60 : w7.cell? ⟨g6, 0, none⟩ = some (.pointer (some ⟨z2, 0, none⟩)) := by
      rw [hzf.out, map_eraseIdx, hz2]; rfl
    obtain ⟨bl2, hbl2⟩ : ∃ bl2, b2.length = bl2 := ⟨_, rfl⟩
    have hbl2p : 0 < bl2 := by have := List.length_pos_iff.2 hb2; omega
    rw [hbl2] at hz7
    obtain ⟨a3, c3, rfl, _⟩ := hp2.2.2.1.arg
    obtain ⟨kl2, hkl2⟩ : ∃ kl2, k2.length = kl2 := ⟨_, rfl⟩
    rw [hkl2] at hz7
    have hpl := (hup.plain (by rw [idBytes_length]; exact HT.out.2.1))
    have hble : bl + bl2 ≤ 1000 := by
      have h1 := (hpl.1.kids).1
      have h2 := hpl.2.2.2.2.1
      rw [idBytes_length] at h2
      have h3 := (HWk.out.1.mem (.mk b2 v2 k2) (List.mem_of_mem_eraseIdx (by rw [hu2]; simp))).2.kids.1
      rw [List.length_append] at h1 h2
      omega
    have hpro : ∀ j, ro j → ¬ (j = y ∨ j = g1) := fun j hj hj' => by
      have hyo : y ∈ o := by rw [ho]; simp
      have hgo : g1 ∈ o := by rw [ho]; simp [vblock]
      rcases hj' with rfl | rfl
      · exact (HOwn.out.2 _ (hup.sub.1 _ hyo)).2.1 hj
      · exact (HOwn.out.2 _ (hup.sub.1 _ hgo)).2.1 hj
    obtain ⟨v9, w8, hr9, hs9, hb9⟩ := run_append_fresh (w := w7.drewN 1) (hp.2.1.chg H7.out.2.2.1 hpro).bytes (hp2.2.1.chg H7.out.2.2.1 hpro).bytes hbl hbl2 hbl2p (by omega)
    obtain ⟨g9, cap9, cur9, rfl, hg9, hrow9, _, hcap9, _, _⟩ := hs9.2.resolve_left (by omega)
    have hy8 : w8.heap[y]? = some (.cells #[.slice aa bl cc, .slice (some ⟨g6, 0, none⟩) 1 cap6, vC vk] 45 (0, 0)) := (hb9.block y (heap_lt H7.out.1)).trans H7.out.1
    have hz8 : w8.heap[z2]? = some (.cells #[.slice a2 bl2 c2, .slice a3 kl2 c3, vC v2] 45 (0, 0)) := (hb9.block z2 (heap_lt hz7)).trans hz7
    obtain ⟨w9, hw9⟩ : ∃ w9, w9 = w8.setCell ⟨y, 0, none⟩ (.slice (some ⟨g9, 0, none⟩) (bl + bl2) cap9) := ⟨_, rfl⟩
    have hy9 : w9.heap[y]? = some (.cells #[.slice (some ⟨g9, 0, none⟩) (bl + bl2) cap9, .slice (some ⟨g6, 0, none⟩) 1 cap6, vC vk] 45 (0, 0)) := by rw [hw9]; exact setCell_head hy8 0 _
    have h89 : Chg (fun j => j = y) w8 w9 := by rw [hw9]; exact Chg.setCell _ _ _ _ rfl
    have hz9 := h89.keep hz8 hz2y
    obtain ⟨w10, hw10⟩ : ∃ w10, w10 = (w9.setCell ⟨y, 1, none⟩ (.slice a3 kl2 c3)).drew := ⟨_, rfl⟩
    have hy10 : w10.heap[y]? = some (.cells #[.slice (some ⟨g9, 0, none⟩) (bl + bl2) cap9, .slice a3 kl2 c3, vC vk] 45 (0, 0)) := by rw [hw10]; exact setCell_head hy9 1 _
    have h910 : Chg (fun j => j = y) w9 w10 := by rw [hw10]; exact (Chg.setCell (fun j => j = y) _ _ _ rfl).trans (Chg.drew (fun j => j = y) _) fun _ h _ => h
    have hz10 := h910.keep hz9 hz2y
    obtain ⟨w11, hw11⟩ : ∃ w11, w11 = w10.setCell ⟨y, 2, none⟩ (vC v2) := ⟨_, rfl⟩
    have hy11 : w11.heap[y]? = some (.cells #[.slice (some ⟨g9, 0, none⟩) (bl + bl2) cap9, .slice a3 kl2 c3, vC v2] 45 (0, 0)) := by rw [hw11]; exact setCell_head hy10 2 _
    have h1011 : Chg (fun j => j = y) w10 w11 := by rw [hw11]; exact Chg.setCell _ _ _ _ rfl
    have h811 := (h89.trans h910 fun _ h _ => h).trans h1011 fun _ h _ => h
    have h711 : Chg (fun j => j = y ∨ j = g1) w4 w11 := (H7.out.2.2.1.trans ((Chg.drewN (fun j => j = y) w7 1).trans (Chg.of_below (fun j => j = y) hb9) fun _ h _ => h) fun _ h _ => .inl h).trans h811 fun _ h _ => .inl h
    have hsz7 := H7.out.2.2.1.size
    have hg9' : w7.heap.size ≤ g9 := hg9
    have hs11 := hs9.chg h811 fun j hj e => by have := heap_lt H7.out.1; simp [vblock] at hj; omega
    have hro11 : BytesRo w11 (fun j => j = g9) (some ⟨g9, 0, none⟩) (b ++ b2) cap9 := by
      have := slice_ro hs11
      exact ⟨this.1, this.2.imp id fun ⟨q, e, r1, r2, r3⟩ => ⟨q, e, r1, by simpa [vblock, eq_comm] using r2, r3⟩⟩
    have hfin : ∃ G', TreeF w11 p G' (delO (some t) (idBytes ms seq)) (n - 1) ∧ Fresh w G G' ∧ Chg G w w11 := by
      have hj : join b vk (k.eraseIdx r) = .mk (b ++ b2) v2 k2 := by rw [hu2]; rfl
      rw [hj] at hdel hwdel
      have hd : delO (some t) (idBytes ms seq) = some (K' (.mk (b ++ b2) v2 k2)) := by
        show (if t.kids.isEmpty then none else some (RT.del t (idBytes ms seq))) = _
        rw [if_neg (by simpa using HL.out.2), hdel]
      rw [hd]
      obtain ⟨f1, f2, f3, f4, f5⟩ := HFr.out
      exact del_join (a9 := some ⟨g9, 0, none⟩) (c9 := cap9) (g9 := g9) hup hp ho hp2 hin hnd2 (by rw [List.length_append, hbl, hbl2, hkl2]; exact hy11) hro11 (by omega) (Nat.lt_of_lt_of_le hrow9.lt h811.size) (h711.mono fun j hj _ => hj.imp id fun h => by rw [h]; rfl) f1 f2 f3 f4 f5 hwdel
    have hblc : bl ≤ cc := by have := hp.2.1.1; omega
    have HFin := Lib.hid hfin
    have HR9 := Lib.hid hr9
    have HW9 := Lib.hid hw9
    have HW10 := Lib.hid hw10
    have HW11 := Lib.hid hw11
    have z70 := cell_in hz7 (i := 0) rfl
    have y80 := cell_in hy8 (i := 0) rfl
    have z80 := cell_in hz8 (i := 0) rfl
    have fy8 := frozen_in hy8 0
    have z91 := cell_in hz9 (i := 1) rfl
    have z92 := cell_in hz9 (i := 2) rfl
    have z101 := cell_in hz10 (i := 1) rfl
    have z102 := cell_in hz10 (i := 2) rfl
    have y91 := cell_in hy9 (i := 1) rfl
    have fy9 := frozen_in hy9 1
    have y102 := cell_in hy10 (i := 2) rfl
    have fy10 := frozen_in hy10 2
    clear hfin hro11 hs11 hg9' hsz7 h711 h811 h1011 hy11 hw11 hz10 h910 hy10 hw10 hz9 h89 hy9 hw9 hz8 hy8 hr9 hs9 hb9 hg9 hrow9 hpro hpl hkl2 hbl2 hz7 hz2g hz2r hb2 hnd2 n1 n3 n4 hin ho2 ho1 hp2 hn2 hu2 hz2 hpp hup hp ho hdel hwdel hkl hbl hxl
    go_upto_region 13 with (fail)
    have HF1 := Lib.hid (show w7.drew.cell? ⟨y, 0, none⟩ = some (.slice aa bl cc) ∧ w7.drew.cell? ⟨z2, 0, none⟩ = some (.slice a2 bl2 c2) from ⟨y70, z70⟩)
    have HF2 := Lib.hid (show w8.cell? ⟨y, 0, none⟩ = some (.slice aa bl cc) ∧ w8.cell? ⟨z2, 0, none⟩ = some (.slice a2 bl2 c2) from ⟨y80, z80⟩)
    obtain ⟨X1, f, hX1, hf, hF⟩ := classOf (fun w => w.cell? ⟨y, 0, none⟩ = some (.slice aa bl cc) ∧ w.cell? ⟨z2, 0, none⟩ = some (.slice a2 bl2 c2)) HF1.out
    have hf1 := fun x => (hf x).1
    have hf2 := fun x => (hf x).2
    have HG1 := Lib.hid (hF _ HF1.out)
    have HG2 := Lib.hid (hF _ HF2.out)
    clear hF hf y70 z70
    refine wp_region_text ⟨[20, 23], [], 23⟩ (fun w' => ∃ x : X1, w' = f x) (by kernel_rfl) (by kernel_rfl) HG1.out ?_
    refine wpC_seg false (HG1.out) 20 0 _ _ (by rfl) (by rfl) ?_
    simp only [List.take_succ_cons, List.take_zero, List.drop_succ_cons, List.drop_zero, Bool.false_eq_true, if_false, Nat.zero_add, Nat.reduceAdd]
    repeat (go_big_quiet_step (fail))
    refine wpQuiet_nil ?_
    refine wpC_value (by rfl) (by rfl) (exec_append rfl HR9.out) (fun _ => HG2.out) ?_
    simp only [Act.put, List.setIfInBounds_toArray, List.set_cons_succ, List.set_cons_zero]
    refine wpC_seg false (HG2.out) 2 21 _ _ (by rfl) (by rfl) ?_
    simp only [List.take_succ_cons, List.take_zero, List.drop_succ_cons, List.drop_zero, Bool.false_eq_true, if_false, Nat.zero_add, Nat.reduceAdd]
    repeat (go_big_quiet_step (fail))
    refine wpQuiet_nil ?_
    refine wpC_loud (by rfl) (by rfl) fun K hK => ?_
    go_wp2_with fail
    rw [← HW9.out]
    refine hK _ _ (fun h => absurd h (by decide)) ?_
    refine wpC_nil ?_
    clear hK hf1 hf2 hX1 HF1 HF2 HG1 HG2 f y80 z80 fy8
    go_upto_region 14 with (fail)
    have HF1 := Lib.hid (show (w9.drewN 1).cell? ⟨z2, 1, none⟩ = some (.slice a3 kl2 c3) ∧ (w9.drewN 1).cell? ⟨z2, 2, none⟩ = some (vC v2) from ⟨z91, z92⟩)
    have HF2 := Lib.hid (And.intro z101 z102)
    obtain ⟨X1, f, hX1, hf, hF⟩ := classOf (fun w => w.cell? ⟨z2, 1, none⟩ = some (.slice a3 kl2 c3) ∧ w.cell? ⟨z2, 2, none⟩ = some (vC v2)) HF1.out
    have hf1 := fun x => (hf x).1
    have hf2 := fun x => (hf x).2
    have HG1 := Lib.hid (hF _ HF1.out)
    have HG2 := Lib.hid (hF _ HF2.out)
    clear hF hf z91 z92 z101 z102
    refine wp_region_text ⟨[12, 15], [], 15⟩ (fun w' => ∃ x : X1, w' = f x) (by kernel_rfl) (by kernel_rfl) HG1.out ?_
    refine wpC_seg false (HG1.out) 12 0 _ _ (by rfl) (by rfl) ?_
    simp only [List.take_succ_cons, List.take_zero, List.drop_succ_cons, List.drop_zero, Bool.false_eq_true, if_false, Nat.zero_add, Nat.reduceAdd]
    repeat (go_big_quiet_step (fail))
    refine wpQuiet_nil ?_
    refine wpC_loud (by rfl) (by rfl) fun K hK => ?_
    go_wp2_with fail
    rw [← HW10.out]
    refine hK _ _ (fun _ => HG2.out) ?_
    clear hK
    refine wpC_seg false (HG2.out) 2 13 _ _ (by rfl) (by rfl) ?_
    simp only [List.take_succ_cons, List.take_zero, List.drop_succ_cons, List.drop_zero, Bool.false_eq_true, if_false, Nat.zero_add, Nat.reduceAdd]
    repeat (go_big_quiet_step (fail))
    refine wpQuiet_nil ?_
    refine wpC_loud (by rfl) (by rfl) fun K hK => ?_
    go_wp2_with fail
    rw [← HW11.out]
    refine hK _ _ (fun h => absurd h (by decide)) ?_
    clear hK
    refine wpC_nil ?_
    clear hf1 hf2 hX1 HF1 HF2 HG1 HG2 f
    go_wp2_with fail
    go_ret
    exact Deleted.yes HL.out.1 HFin.out
end Go.Proofs.Ytbjpfnafhhbmaaa.Rad
