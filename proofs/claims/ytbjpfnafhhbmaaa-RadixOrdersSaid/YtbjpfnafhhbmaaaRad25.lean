/- radix: what Put leaves where two rows of bytes part within a node. -/
import Derived.Test.YtbjpfnafhhbmaaaRad24
namespace Go.Proofs.Ytbjpfnafhhbmaaa.Rad
open Go.Proofs.Ytbjpfnafhhbmaaa
set_option linter.unusedVariables false
set_option linter.unusedSimpArgs false
open Go.RowKit RT
section
variable {w w5 : World} {ro : Nat → Prop} {p n : Nat} {t : RT} {x : Nat} {own : List Nat} {s : List UInt8} {b : List UInt8} {v : VT} {k : List RT} {y : Nat} {o : List Nat} {s' : List UInt8} {ab : List Nat} {c d : Nat} {K : RT → RT}
    {g q ca : Nat} {kv : Value} {xs rows : List Nat} {m : Nat}
/-- The node that both are below, and the elder node without the bytes that it has. -/
theorem part1 {w6 : World} (hway : Way w ro p n t x own s (.mk b v k) y o s' ab c d K) (hp : Parts w ro b v k y (some ⟨g, q, none⟩) ca kv xs rows) (ho : o = y :: ((vblock kv).toList ++ rows)) (hb5 : Below w.heap.size w w5) (hm : m < b.length)
    (hw6 : w6 = (w5.setCell ⟨y, 0, none⟩ (.slice (some ⟨g, q + m, none⟩) (b.length - m) (ca - m))).alloc (.cells #[.slice (some ⟨g, q, none⟩) m m, .slice none 0 0, vC zT] 45)) :
    Parts w6 ro (b.take m) zT [] w5.heap.size (some ⟨g, q, none⟩) m (.slice none 0 0) [] [] ∧ w6.cell? ⟨y, 0, none⟩ = some (.slice (some ⟨g, q + m, none⟩) (b.length - m) (ca - m)) ∧ w6.cell? ⟨g, q + m, none⟩ = some (.int .u8 (b.getD m 0).toNat) ∧
      NodeAt w6 ro (.mk (b.drop m) v k) y o ∧ Chg (fun j => j = y) w w6 ∧ w6.heap.size = w5.heap.size + 1 := by
  have hsub := hway.sub
  have hyo : y ∈ o := by rw [ho]; simp
  have hroot := hway.root
  have hlt : ∀ q ∈ o, q < w.heap.size ∧ ¬ ro q := fun q hq => by have := hroot.2.2.2 q (by simp [hsub.1 q hq]); exact ⟨this.2, this.1⟩
  have hp5 := hp.below hb5
  obtain ⟨w5', hw5'⟩ : ∃ w5', w5' = w5.setCell ⟨y, 0, none⟩ (.slice (some ⟨g, q + m, none⟩) (b.length - m) (ca - m)) := ⟨_, rfl⟩
  rw [← hw5'] at hw6
  have hy5 : w5'.heap[y]? = some (.cells #[.slice (some ⟨g, q + m, none⟩) (b.length - m) (ca - m), kv, vC v] 45 (0, 0)) := by rw [hw5']; exact setCell_head hp5.1 0 _
  have hsz : w5'.heap.size = w5.heap.size := by rw [hw5']; simp [World.setCell]
  have hy6 : w6.heap[y]? = some (.cells #[.slice (some ⟨g, q + m, none⟩) (b.length - m) (ca - m), kv, vC v] 45 (0, 0)) := by rw [hw6]; exact heap_old hy5 _
  have hY6 : w6.heap[w5.heap.size]? = some (.cells #[.slice (some ⟨g, q, none⟩) m m, .slice none 0 0, vC zT] 45 (0, 0)) := by rw [hw6, ← hsz]; exact heap_new _ _
  have hc5 : Chg (fun j => j = y) w5 w6 := by rw [hw6, hw5']; exact (Chg.setCell (fun j => j = y) _ _ _ rfl).trans (Chg.alloc (fun j => j = y) _ _) fun _ h _ => h
  have hc6 : Chg (fun j => j = y) w w6 := (Chg.of_below _ hb5).trans hc5 fun _ h _ => h
  have hro : ∀ j, ro j → ¬ j = y := fun j hj e => (hlt y hyo).2 (e ▸ hj)
  have hb6 := hp.2.1.chg hc6 hro
  have hnd := hsub.2.1
  rw [ho, List.nodup_cons] at hnd
  simp only [List.mem_append, vb_list, not_or] at hnd
  have hbr := hb6.rest hm
  refine ⟨⟨?_, hb6.cut m, SliceIs.nil _ _ _, by rw [NodesAt]; exact ⟨rfl, rfl⟩⟩, cell_in hy6 (i := 0) rfl, ?_, ?_, hc6, by rw [hw6]; simp [hsz]⟩
  · rw [show (b.take m).length = m by rw [List.length_take]; omega]; exact hY6
  · obtain ⟨g', q', e, _, _, h3⟩ := hb6.2.resolve_left (by omega)
    cases e
    exact h3 m hm
  · rw [NodeAt]
    refine ⟨_, _, kv, xs, rows, by rw [List.length_drop]; exact hy6, hbr, hp.2.2.1.chg hc6 fun j hj e => hnd.1.1 (e ▸ hj), NodesAt.chg hc6 hro hp.2.2.2 fun j hj e => hnd.1.2 (e ▸ hj), ho⟩
/-- .. and the node above both, in the elder one's place. -/
theorem part2 {w6 w7 : World} {e : Ending} (hway : Way w ro p n t x own s (.mk b v k) y o s' ab c d K) (hrl : ∀ j, ro j → j < w.heap.size) (hm : m < b.length) (hb5 : w.heap.size ≤ w5.heap.size)
    (h6 : Parts w6 ro (b.take m) zT [] w5.heap.size (some ⟨g, q, none⟩) m (.slice none 0 0) [] []) (hn6 : NodeAt w6 ro (.mk (b.drop m) v k) y o) (hc6 : Chg (fun j => j = y) w w6) (hs6 : w6.heap.size = w5.heap.size + 1)
    (hadd : Added w6 (b.take m) zT [] w5.heap.size (some ⟨g, q, none⟩) m (.slice none 0 0) [] (b.getD m 0) y e w7) :
    (w7.cell? ⟨c, d, none⟩ = some (ptrV y) ∧ w7.frozen? ⟨c, d, none⟩ = false) ∧ ∃ kv7, Parts (w7.setCell ⟨c, d, none⟩ (ptrV w5.heap.size)) ro (b.take m) zT [.mk (b.drop m) v k] w5.heap.size (some ⟨g, q, none⟩) m kv7 [y] o ∧
      SetAt w (w7.setCell ⟨c, d, none⟩ (ptrV w5.heap.size)) c d (ptrV w5.heap.size) ∧ Chg (fun j => j = y ∨ j = c) w (w7.setCell ⟨c, d, none⟩ (ptrV w5.heap.size)) ∧ (∀ j, vblock kv7 = some j → w5.heap.size < j) := by
  obtain ⟨_, r, kv7, hP, h7, hs7, hv7, hc67⟩ := hadd
  have hr0 : r = 0 := by have := hP.1; simpa using this
  subst hr0
  have hsub := hway.sub
  have hroot := hway.root
  have hyo : y ∈ o := by
    obtain ⟨a, ca, kv, xs, rows, _, ho⟩ := parts_of hn6
    rw [ho]; simp
  have hlt : ∀ q ∈ o, q < w.heap.size ∧ ¬ ro q := fun q hq => by have := hroot.2.2.2 q (by simp [hsub.1 q hq]); exact ⟨this.2, this.1⟩
  have hclt : c < w.heap.size ∧ ¬ ro c := by have := hroot.2.2.2 c hsub.2.2.2; exact ⟨this.2, this.1⟩
  have hc7 : Chg (fun j => j = w5.heap.size) w6 w7 := hc67.mono fun j hj _ => by
    rcases hj with hj | hj
    · exact hj
    · cases hj
  have hcw7 : Chg (fun j => j = y) w w7 := hc6.trans hc7 fun j hj hlt' => by omega
  have hcy : c ≠ y := fun e => hsub.2.2.1 (e ▸ hyo)
  obtain ⟨hcell, cs, E, hdl, ⟨fz, hfz, hh⟩, hv⟩ := hway.cell
  have hh7 : w7.heap[c]? = some (.cells cs E fz) := hcw7.keep hh hcy
  obtain ⟨w8, hw8⟩ : ∃ w8, w8 = w7.setCell ⟨c, d, none⟩ (ptrV w5.heap.size) := ⟨_, rfl⟩
  rw [← hw8]
  have e8 := setCell_eq_setRow w7 c d _ _ _ (ptrV w5.heap.size) hh7
  rw [← hw8] at e8
  have hc78 : Chg (fun j => j = c) w7 w8 := by rw [hw8]; exact Chg.setCell _ _ _ _ rfl
  have hkv7 : ∀ j, vblock kv7 = some j → w5.heap.size < j := fun j hj => by
    rcases hv7 with h | ⟨g', h1, h2⟩
    · rw [h] at hj; cases hj
    · rw [h1] at hj; cases hj; omega
  have hroc : ∀ j, ro j → ¬ j = c := fun j hj e => hclt.2 (e ▸ hj)
  have hroY : ∀ j, ro j → ¬ j = w5.heap.size := fun j hj e => by
    have := hrl j hj; omega
  refine ⟨⟨cell_in hh7 hv, free_at hh7 hfz⟩, kv7, ⟨?_, ?_, ?_, ?_⟩, ?_, (hcw7.mono fun j hj _ => .inl hj).trans (hc78.mono fun j hj _ => .inr hj) fun _ h _ => h, hkv7⟩
  · exact hc78.keep h7 (by omega)
  · exact (h6.2.1.chg hc7 hroY).chg hc78 hroc
  · have := hs7.chg hc78 fun j hj e => by have := hkv7 j hj; omega
    simpa using this
  · rw [NodesAt]
    refine ⟨y, [], o, [], rfl, (hn6.chg hc7 hroY fun j hj e => by have := (hlt j hj).1; omega).chg hc78 hroc fun j hj e => hsub.2.2.1 (e ▸ hj), by rw [NodesAt]; exact ⟨rfl, rfl⟩, by simp⟩
  · intro cs' E' fz' hcs
    rw [hh] at hcs
    cases hcs
    rw [e8]
    exact heap_setRow hh7 _
/-- .. and at last the new leaf. -/
theorem part3 {w0 w8 w9 w11 : World} {Y : Nat} {A : Option Addr} {kv7 : Value} {G : Nat → Prop} {a2 : Option Addr} {c2 n2 : Nat} {vx : VT} {e : Ending}
    (hway : Way w ro p n t x own s (.mk b v k) y o s' ab c d K) (hal : alikeN b s' = m) (hm : m < b.length) (hms : m < s'.length) (h8 : Parts w8 ro (b.take m) zT [.mk (b.drop m) v k] Y A m kv7 [y] o) (hset : SetAt w w8 c d (ptrV Y)) (hc8 : Chg (fun j => j = y ∨ j = c) w w8)
    (hkv7 : ∀ j, vblock kv7 = some j → Y < j) (hY : w.heap.size ≤ Y) (hb9 : Below w8.heap.size w8 w9) (hn2 : n2 = (s'.drop m).length) (hbs : BytesRo w8 ro a2 (s'.drop m) c2)
    (hadd : Added (w9.alloc (.cells #[.slice a2 n2 c2, .slice none 0 0, vC vx] 45)) (b.take m) zT [.mk (b.drop m) v k] Y A m kv7 [y] (s'.getD m 0) w9.heap.size e w11)
    (hGp : G p) (hGo : ∀ k ∈ own, G k) (hGr : ∀ k, ro k → (G k ∨ w0.heap.size ≤ k) ∧ k < w.heap.size) (hGl : ∀ k, G k → k < w0.heap.size) (h0 : Chg G w0 w) (hw : WF 16 t) (hs : s.length = 16) :
    ∃ G', TreeF w11 p G' (putO (some t) s vx) n ∧ Fresh w0 G G' ∧ Chg G w0 w11 := by
  obtain ⟨_, r, kv11, hP, h11, hs11, hv11, hc1011⟩ := hadd
  obtain ⟨w10, hw10⟩ : ∃ w10, w10 = w9.alloc (.cells #[.slice a2 n2 c2, .slice none 0 0, vC vx] 45) := ⟨_, rfl⟩
  rw [← hw10] at hc1011 hv11
  have hsub := hway.sub
  have hroot := hway.root
  have hyo : y ∈ o := by
    obtain ⟨a, ca, kv, xs, rows, _, ho⟩ := parts_of hway.node
    rw [ho]; simp
  have hlt : ∀ q ∈ o, q < w.heap.size ∧ ¬ ro q := fun q hq => by have := hroot.2.2.2 q (by simp [hsub.1 q hq]); exact ⟨this.2, this.1⟩
  have hclt : c < w.heap.size ∧ ¬ ro c := by have := hroot.2.2.2 c hsub.2.2.2; exact ⟨this.2, this.1⟩
  have hz10 : w10.heap[w9.heap.size]? = some (.cells #[.slice a2 n2 c2, .slice none 0 0, vC vx] 45 (0, 0)) := by rw [hw10]; exact heap_new _ _
  have hs10 : w10.heap.size = w9.heap.size + 1 := by rw [hw10]; simp
  have hY8 := heap_lt h8.1
  have hsz9 := hb9.size
  have hsz11 := hc1011.size
  have hc9 : Chg (fun j => j = Y ∨ vblock kv7 = some j) w8 w10 := (Chg.of_below (fun j => j = Y ∨ vblock kv7 = some j) hb9).trans (show Chg (fun j => j = Y ∨ vblock kv7 = some j) w9 w10 by rw [hw10]; exact Chg.alloc _ _ _) fun _ h _ => h
  have hc811 : Chg (fun j => j = Y ∨ vblock kv7 = some j) w8 w11 := hc9.trans hc1011 fun _ h _ => h
  have hkv8 : ∀ j, vblock kv7 = some j → j < w8.heap.size := fun j hj => (h8.2.2.1.block_lt hj).2
  have hS : ∀ j, j = Y ∨ vblock kv7 = some j → w.heap.size ≤ j := fun j hj => by
    rcases hj with rfl | hj
    · exact hY
    · have := hkv7 j hj; omega
  have hc11 : Chg (fun j => j = y ∨ j = c) w w11 := hc8.trans hc811 fun j hj hlt' => by have := hS j hj; omega
  have hroS : ∀ j, ro j → ¬ (j = Y ∨ vblock kv7 = some j) := fun j hj hj' => by have := (hGr j hj).2; have := hS j hj'; omega
  have hz11 := hc1011.keep hz10 (fun hq => by
    rcases hq with hq | hq
    · omega
    · have := hkv8 _ hq; omega)
  have hleaf : NodeAt w11 ro (.mk (s'.drop m) vx []) w9.heap.size [w9.heap.size] := leaf_node hn2 hz11 (hbs.chg hc811 hroS)
  have hoS : ∀ j ∈ o, ¬ (j = Y ∨ vblock kv7 = some j) := fun j hj hj' => by have := (hlt j hj).1; have := hS j hj'; omega
  have hrows : NodesAt w11 ro [.mk (b.drop m) v k] [y] o := NodesAt.chg hc811 hroS h8.2.2.2 hoS
  obtain ⟨pre, post, hpp, hins⟩ := NodesAt.ins hleaf hrows r
  have hrl : r ≤ 1 := by have := hP.1; simpa using this
  have hpart : (RT.mk (b.drop m) v k).first ≠ (s'.drop m).getD 0 0 := by
    show (b.drop m).getD 0 0 ≠ _
    rw [head_drop, head_drop, ← hal]
    exact alike_part (by omega) (by omega)
  have hfd : (s'.drop m).getD 0 0 = s'.getD m 0 := head_drop s' m
  have hput : RT.put t s vx = K (.mk (b.take m) zT ([RT.mk (b.drop m) v k].take r ++ .mk (s'.drop m) vx [] :: [RT.mk (b.drop m) v k].drop r)) := by
    rw [(hway.plain (by rw [hs]; exact hw)).2.2.1, RT.put, if_pos (by omega), hal]
    rw [RT.addK_one (t := RT.mk (b.drop m) v k) (u := RT.mk (s'.drop m) vx []) (r := r) (by rw [show (RT.mk (s'.drop m) vx []).first = s'.getD m 0 from hfd]; exact hP) hpart]
  obtain ⟨K2, hK2⟩ : ∃ K2, K2 = [RT.mk (b.drop m) v k].take r ++ .mk (s'.drop m) vx [] :: [RT.mk (b.drop m) v k].drop r := ⟨_, rfl⟩
  have hl2 : K2.length = 2 := by rw [hK2]; simp; omega
  rw [← hK2] at hput hins
  have hnode : NodeAt w11 ro (.mk (b.take m) zT K2) Y (Y :: ((vblock kv11).toList ++ (pre ++ ([w9.heap.size] ++ post)))) := by
    rw [NodeAt]
    exact ⟨A, m, kv11, _, _, h11, (h8.2.1).chg hc811 hroS, by rw [hl2]; exact hs11, hins, rfl⟩
  have hWF : WF 16 (K (.mk (b.take m) zT K2)) := by rw [← hput]; exact WF_put vx hw hs
  have hset11 : SetAt w w11 c d (ptrV Y) := fun cs E fz hcs => hc811.keep (hset cs E fz hcs) fun hj => by have := hS c hj; omega
  have hkv11 : ∀ j, vblock kv11 = some j → (Y < j ∧ j < w9.heap.size) ∨ w9.heap.size < j := fun j hj => by
    rcases hv11 with h | ⟨g', h1, h2⟩
    · rw [h] at hj
      have := hkv8 j hj
      exact .inl ⟨hkv7 j hj, by omega⟩
    · rw [h1] at hj; cases hj
      exact .inr (by omega)
  have hop : ∀ j, j ∈ pre ∨ j ∈ post → j ∈ o := fun j hj => by rw [hpp]; simpa using hj
  have hnd := hsub.2.1
  rw [hpp, List.nodup_append] at hnd
  have gd1 : (Y :: ((vblock kv11).toList ++ (pre ++ ([w9.heap.size] ++ post)))).Nodup := by
    rw [List.nodup_cons, List.nodup_append, List.nodup_append, List.nodup_append]
    refine ⟨?_, by cases vblock kv11 <;> simp, ⟨hnd.1, ⟨by simp, hnd.2.1, ?_⟩, ?_⟩, ?_⟩
    · simp only [List.mem_append, List.mem_cons, List.not_mem_nil, or_false, vb_list, not_or]
      refine ⟨fun h => ?_, fun h => ?_, by omega, fun h => ?_⟩
      · rcases hkv11 _ h with h | h <;> omega
      · have := (hlt _ (hop _ (.inl h))).1; omega
      · have := (hlt _ (hop _ (.inr h))).1; omega
    · intro q hq q' hq' e
      simp only [List.mem_cons, List.not_mem_nil, or_false] at hq
      have := (hlt _ (hop _ (.inr hq'))).1; omega
    · intro q hq q' hq' e
      simp only [List.mem_append, List.mem_cons, List.not_mem_nil, or_false] at hq'
      rcases hq' with rfl | hq'
      · have := (hlt _ (hop _ (.inl hq))).1; omega
      · exact hnd.2.2 q hq q' hq' e
    · intro q hq q' hq' e
      subst e
      rw [vb_list] at hq
      simp only [List.mem_append, List.mem_cons, List.not_mem_nil, or_false] at hq'
      rcases hkv11 q hq with h | h
      · rcases hq' with hq' | rfl | hq'
        · have := (hlt _ (hop _ (.inl hq'))).1; omega
        · omega
        · have := (hlt _ (hop _ (.inr hq'))).1; omega
      · rcases hq' with hq' | rfl | hq'
        · have := (hlt _ (hop _ (.inl hq'))).1; omega
        · omega
        · have := (hlt _ (hop _ (.inr hq'))).1; omega
  have gd2 : ∀ q ∈ (Y :: ((vblock kv11).toList ++ (pre ++ ([w9.heap.size] ++ post)))), (q ∈ o ∨ w.heap.size ≤ q) ∧ q < w11.heap.size := by
    intro q hq
    simp only [List.mem_cons, List.mem_append, List.not_mem_nil, or_false, vb_list] at hq
    rcases hq with rfl | hq | hq | rfl | hq
    · exact ⟨.inr hY, by omega⟩
    · exact ⟨.inr (by rcases hkv11 q hq with h | h <;> omega), (hs11.block_lt hq).2⟩
    · exact ⟨.inl (hop q (.inl hq)), by have := (hlt _ (hop _ (.inl hq))).1; omega⟩
    · exact ⟨.inr (by omega), by omega⟩
    · exact ⟨.inl (hop q (.inr hq)), by have := (hlt _ (hop _ (.inr hq))).1; omega⟩
  obtain ⟨G', g1, g2, g3⟩ := hway.done (w0 := w0) (G := G) (y' := Y) hGp hGo hGr hGl h0 (hc11.mono fun q hq _ => hq.imp (fun (e : q = y) => e ▸ hyo) id) hset11 hnode gd1 gd2 hWF
  exact ⟨G', by rw [show putO (some t) s vx = some (K (.mk (b.take m) zT K2)) by show some (RT.put t s vx) = _; rw [hput]]; exact g1, g2, g3⟩
end
end Go.Proofs.Ytbjpfnafhhbmaaa.Rad
