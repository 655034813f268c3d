/- radix: what Put's two ends leave of the tree. -/
import Derived.Test.YtbjpfnafhhbmaaaRad23
namespace Go.Proofs.Ytbjpfnafhhbmaaa.Rad
open Go.Proofs.Ytbjpfnafhhbmaaa
set_option linter.unusedVariables false
set_option linter.unusedSimpArgs false
open Go.RowKit RT
/-- A leaf that has just been made. -/
theorem leaf_node {w : World} {ro : Nat → Prop} {s : List UInt8} {x : VT} {z : Nat} {a : Option Addr} {c n : Nat} (hn : n = s.length) (h : w.heap[z]? = some (.cells #[.slice a n c, .slice none 0 0, vC x] 45 (0, 0))) (hb : BytesRo w ro a s c) : NodeAt w ro (.mk s x []) z [z] := by
  subst hn
  rw [NodeAt]
  exact ⟨a, c, .slice none 0 0, [], [], h, hb, SliceIs.nil _ _ _, by rw [NodesAt]; exact ⟨rfl, rfl⟩, by simp [vblock]⟩
theorem vb_list {v : Value} {k : Nat} : k ∈ (vblock v).toList ↔ vblock v = some k := by
  cases vblock v <;> simp [eq_comm]
theorem put_at {w0 w w5 w7 : World} {ro : Nat → Prop} {p n : Nat} {t : RT} {x : Nat} {own : List Nat} {s : List UInt8} {b : List UInt8} {v : VT} {k : List RT} {y : Nat} {o : List Nat} {s2 : List UInt8} {ab : List Nat} {c d : Nat} {K : RT → RT}
    {a : Option Addr} {ca : Nat} {kv : Value} {xs rows : List Nat} {G : Nat → Prop} {a2 : Option Addr} {c2 n2 : Nat} {vx : VT} {e : Ending}
    (hway : Way w ro p n t x own s (.mk b v k) y o (b ++ s2) ab c d K) (hp : Parts w ro b v k y a ca kv xs rows) (ho : o = y :: ((vblock kv).toList ++ rows)) (hb5 : Below w.heap.size w w5) (hs2 : s2 ≠ []) (hno : ∀ u ∈ k, u.first ≠ s2.getD 0 0) (hn2 : n2 = s2.length)
    (hbs : BytesRo w ro a2 s2 c2) (hadd : Added (w5.alloc (.cells #[.slice a2 n2 c2, .slice none 0 0, vC vx] 45)) b v k y a ca kv xs (s2.getD 0 0) w5.heap.size e w7)
    (hGp : G p) (hGo : ∀ k ∈ own, G k) (hGr : ∀ k, ro k → (G k ∨ w0.heap.size ≤ k) ∧ k < w.heap.size) (hGl : ∀ k, G k → k < w0.heap.size) (h0 : Chg G w0 w) (hw : WF 16 t) (hs : s.length = 16) :
    ∃ G', TreeF w7 p G' (putO (some t) s vx) n ∧ Fresh w0 G G' ∧ Chg G w0 w7 := by
  obtain ⟨_, r, kv', hP, h7, hs7, hv7, hc67⟩ := hadd
  obtain ⟨w6, hw6⟩ : ∃ w6, w6 = w5.alloc (.cells #[.slice a2 n2 c2, .slice none 0 0, vC vx] 45) := ⟨_, rfl⟩
  rw [← hw6] at hc67 hv7
  have hz6 : w6.heap[w5.heap.size]? = some (.cells #[.slice a2 n2 c2, .slice none 0 0, vC vx] 45 (0, 0)) := by rw [hw6]; exact heap_new _ _
  have hs6 : w6.heap.size = w5.heap.size + 1 := by rw [hw6]; simp
  have hsub := hway.sub
  have hroot := hway.root
  have hlt : ∀ q ∈ o, q < w.heap.size ∧ ¬ ro q := fun q hq => by have := hroot.2.2.2 q (by simp [hsub.1 q hq]); exact ⟨this.2, this.1⟩
  have hyo : y ∈ o := by rw [ho]; simp
  have hkvo : ∀ g, vblock kv = some g → g ∈ o := fun g hg => by rw [ho]; simp [vb_list.2 hg]
  have hS : ∀ q, (q = y ∨ vblock kv = some q) → q ∈ o := fun q hq => hq.elim (fun e => e ▸ hyo) (hkvo q)
  have hsz5 := hb5.size
  have hsz7 := hc67.size
  have hc57 : Chg (fun j => j = y ∨ vblock kv = some j) w w7 := ((Chg.of_below (fun j => j = y ∨ vblock kv = some j) hb5).trans (show Chg (fun j => j = y ∨ vblock kv = some j) w5 w6 by rw [hw6]; exact Chg.alloc _ _ _) fun _ h _ => h).trans hc67 fun _ h _ => h
  have hz7 := hc67.keep hz6 (fun hq => by have := (hlt _ (hS _ hq)).1; omega)
  have hro : ∀ q, ro q → ¬ (q = y ∨ vblock kv = some q) := fun q hq hq' => (hlt q (hS q hq')).2 hq
  have hleaf : NodeAt w7 ro (.mk s2 vx []) w5.heap.size [w5.heap.size] := leaf_node hn2 hz7 (hbs.chg hc57 hro)
  have hnd := hsub.2.1
  rw [ho, List.nodup_cons, List.nodup_append] at hnd
  obtain ⟨n1, n2, n3, n4⟩ := hnd
  simp only [List.mem_append, not_or] at n1
  have hrows : NodesAt w7 ro k xs rows := NodesAt.chg hc57 hro hp.2.2.2 fun q hq hq' => by
    rcases hq' with rfl | hq'
    · exact n1.2 hq
    · exact n4 q (vb_list.2 hq') q hq rfl
  obtain ⟨pre, post, hpp, hins⟩ := NodesAt.ins hleaf hrows r
  have hrl : r ≤ k.length := by have := hP.1; simpa using this
  have hxl : xs.length = k.length := NodesAt.length hp.2.2.2
  have hnode : NodeAt w7 ro (.mk b v (k.take r ++ .mk s2 vx [] :: k.drop r)) y (y :: ((vblock kv').toList ++ (pre ++ ([w5.heap.size] ++ post)))) := by
    rw [NodeAt]
    refine ⟨a, ca, kv', _, _, h7, hp.2.1.chg hc57 hro, ?_, hins, rfl⟩
    have : (k.take r ++ RT.mk s2 vx [] :: k.drop r).length = k.length + 1 := by simp; omega
    rw [this]; exact hs7
  have hput : RT.put t s vx = K (.mk b v (k.take r ++ .mk s2 vx [] :: k.drop r)) := by
    rw [(hway.plain (by rw [hs]; exact hw)).2.2.1, RT.put_append _ _ _ _ _ hs2, RT.putS_ins undef vx hP hno]
  have hWF : WF 16 (K (.mk b v (k.take r ++ .mk s2 vx [] :: k.drop r))) := by rw [← hput]; exact WF_put vx hw hs
  have hcy : c ≠ y := fun e => hsub.2.2.1 (e ▸ hyo)
  have hckv : vblock kv ≠ some c := fun e => hsub.2.2.1 (hkvo c e)
  have hkv' : ∀ g, vblock kv' = some g → g ∈ o ∧ g ∉ rows ∧ g ≠ y ∨ w5.heap.size < g := fun g hg => by
    rcases hv7 with h | ⟨g', h1, h2⟩
    · rw [h] at hg
      exact .inl ⟨hkvo g hg, fun hr => n4 g (vb_list.2 hg) g hr rfl, fun e => n1.1 (vb_list.2 (e ▸ hg))⟩
    · rw [h1] at hg; cases hg
      exact .inr (by omega)
  have hrin : ∀ q ∈ rows, q ∈ o := fun q hq => by rw [ho]; simp [hq]
  have gd1 : (y :: ((vblock kv').toList ++ (pre ++ ([w5.heap.size] ++ post)))).Nodup := by
    rw [hpp, List.nodup_append] at n3
    rw [List.nodup_cons, List.nodup_append, List.nodup_append, List.nodup_append]
    have hz : ∀ q ∈ o, q ≠ w5.heap.size := fun q hq e => by have := (hlt q hq).1; omega
    have hpre : ∀ q ∈ pre, q ∈ rows := fun q hq => by rw [hpp]; simp [hq]
    have hpost : ∀ q ∈ post, q ∈ rows := fun q hq => by rw [hpp]; simp [hq]
    refine ⟨?_, by cases vblock kv' <;> simp, ⟨n3.1, ⟨by simp, n3.2.1, ?_⟩, ?_⟩, ?_⟩
    · simp only [List.mem_append, List.mem_cons, List.not_mem_nil, or_false, vb_list, not_or]
      refine ⟨fun h => ?_, fun h => n1.2 (hpre y h), fun h => hz y hyo h, fun h => n1.2 (hpost y h)⟩
      rcases hkv' y h with h | h
      · exact h.2.2 rfl
      · have := (hlt y hyo).1; omega
    · intro q hq q' hq' e
      simp only [List.mem_cons, List.not_mem_nil, or_false] at hq
      exact hz q' (hrin q' (hpost q' hq')) (by rw [← e, hq])
    · intro q hq q' hq' e
      simp only [List.mem_append, List.mem_cons, List.not_mem_nil, or_false] at hq'
      rcases hq' with rfl | hq'
      · exact hz q (hrin q (hpre q hq)) e
      · exact n3.2.2 q hq q' hq' e
    · intro q hq q' hq' e
      subst e
      rw [vb_list] at hq
      simp only [List.mem_append, List.mem_cons, List.not_mem_nil, or_false] at hq'
      rcases hkv' q hq with h | h
      · rcases hq' with hq' | rfl | hq'
        · exact h.2.1 (hpre q hq')
        · exact hz _ h.1 rfl
        · exact h.2.1 (hpost q hq')
      · rcases hq' with hq' | rfl | hq'
        · have := (hlt q (hrin q (hpre q hq'))).1; omega
        · omega
        · have := (hlt q (hrin q (hpost q hq'))).1; omega
  have gd2 : ∀ q ∈ (y :: ((vblock kv').toList ++ (pre ++ ([w5.heap.size] ++ post)))), (q ∈ o ∨ w.heap.size ≤ q) ∧ q < w7.heap.size := by
    intro q hq
    have old : ∀ q ∈ o, (q ∈ o ∨ w.heap.size ≤ q) ∧ q < w7.heap.size := fun q hq => ⟨.inl hq, by have := (hlt q hq).1; have := hc57.size; omega⟩
    simp only [List.mem_cons, List.mem_append, List.not_mem_nil, or_false, vb_list] at hq
    rcases hq with rfl | hq | hq | rfl | hq
    · exact old _ hyo
    · rcases hkv' q hq with h | h
      · exact old q h.1
      · exact ⟨.inr (by omega), (hs7.block_lt hq).2⟩
    · exact old q (hrin q (by rw [hpp]; simp [hq]))
    · exact ⟨.inr hsz5, by omega⟩
    · exact old q (hrin q (by rw [hpp]; simp [hq]))
  obtain ⟨G', g1, g2, g3⟩ := hway.done (w0 := w0) (G := G) (y' := y) hGp hGo hGr hGl h0 (hc57.mono fun q hq _ => .inl (hS q hq)) (SetAt.same hc57 (by rw [not_or]; exact ⟨hcy, hckv⟩) hway.cell.1) hnode gd1 gd2 hWF
  exact ⟨G', by rw [show putO (some t) s vx = some (K (.mk b v (k.take r ++ .mk s2 vx [] :: k.drop r))) by show some (RT.put t s vx) = _; rw [hput]]; exact g1, g2, g3⟩
theorem BytesRo.cut {w : World} {ro : Nat → Prop} {a : Option Addr} {xs : List UInt8} {cap : Nat} (h : BytesRo w ro a xs cap) (m : Nat) : BytesRo w ro a (xs.take m) m := by
  refine ⟨by rw [List.length_take]; omega, ?_⟩
  rcases h.2 with h0 | ⟨b, o, e, h1, h2, h3⟩
  · exact .inl (by rw [List.length_take]; omega)
  · refine .inr ⟨b, o, e, h1, h2, fun i hi => ?_⟩
    simp only [List.length_take] at hi
    rw [h3 i (by omega)]
    simp [List.getD, List.getElem?_take_of_lt (show i < m by omega)]
theorem BytesRo.rest {w : World} {ro : Nat → Prop} {g q : Nat} {xs : List UInt8} {cap : Nat} (h : BytesRo w ro (some ⟨g, q, none⟩) xs cap) {m : Nat} (hm : m < xs.length) : BytesRo w ro (some ⟨g, q + m, none⟩) (xs.drop m) (cap - m) := by
  have hc := h.1
  obtain ⟨b, o, e, h1, h2, h3⟩ := h.2.resolve_left (by omega)
  cases e
  refine ⟨by simp; omega, .inr ⟨g, q + m, rfl, h1, h2, fun i hi => ?_⟩⟩
  simp only [List.length_drop] at hi
  rw [Nat.add_assoc, h3 (m + i) (by omega)]
  simp [List.getD]
end Go.Proofs.Ytbjpfnafhhbmaaa.Rad
