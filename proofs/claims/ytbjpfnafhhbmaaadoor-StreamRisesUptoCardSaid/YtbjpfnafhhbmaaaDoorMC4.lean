/- Lemmas and walks for StreamRises, part 4 of 5: the texts Reg2, Stm17, Stm18, Stm19, Stm20, Stm21, Stm22, Stm23, Stm24, Stm26, Stm11, Ref16, Ref17, Ref18, Ref19, Stm12, Stm13, Stm25, Stm27. -/
import Derived.Test.YtbjpfnafhhbmaaaDoorMC1
import Derived.OrdersIn
import Derived.ControlIn
import Derived.Test.YtbjpfnafhhbmaaaDoorMC3
import Derived.Sort.CutIn
/- Regions that draw their order inside a round of a range over a function: Reg's walk serves there too. -/
namespace Go.Proofs.YtbjpfnafhhbmaaaDoor
set_option linter.unusedVariables false
set_option linter.unusedSimpArgs false
/-- No 'defer'. -/
def noDefer (o : Oper) : Bool := match o.op with
  | .defer _ => false
  | .call _ | .go _ | .send .. | .recv .. | .select .. => true
  | _ => true
theorem noDefer_spec {o : Oper} (h : noDefer o = true) : ∀ c, o.op ≠ .defer c := by
  intro c hc
  unfold noDefer at h
  rw [hc] at h
  cases h
theorem rowsIn_wide' {n : Nat} {P : Program} {row : String} {args : Array Value} {w : World} {R : Value → World → Prop} {l : Nat} (h : Rows P row args w R) : RowsIn (Fence.wide.inRound l) n P row args w R := by
  intro c cs _
  obtain ⟨v, w', r, s⟩ := h c cs
  exact ⟨v, w', r, stepsIn_wide.2 s⟩
theorem callsIn_round {n : Nat} {P : Program} {f : FuncId} {args : Array Value} {w : World} {R : Ending → World → Prop} {l : Nat} (h : Calls P f args w R) : CallsIn (Fence.wide.inRound l) n P f args w R := callsIn_wide.2 h
section
variable {P : Program} {ops : Array Oper} {md : Region.Mode} {C : World → Prop} {Q : Act → World → Prop} {p : Plan}
theorem wpAnyIn_of_C {l n : Nat} {Q' : Exit → Act → World → Prop} (hnd : ∀ (i : Nat) (o : Oper), ops[i]? = some o → noDefer o = true) (hQ : ∀ a w, Q a w → Q' .normal a w) (hp : p.before md ops) : ∀ (fuel : Nat) (listed : Array Bool) (a : Act) (w : World), Closed md ops listed → listed.size = ops.size →
    wpAnyC P md ops p C Q fuel listed a w → wpAnyIn (Fence.wide.inRound l) n P md ops Q' fuel listed a w
  | 0, _, _, _, _, _, h => ⟨h.2.1, hQ _ _ h.2.2⟩
  | fuel + 1, listed, a, w, hcl, hsz, h => ⟨fun h0 => hQ _ _ (h.2.1 h0), fun i hi => by
      have h1 := h.2.2 i hi
      obtain ⟨hiun, o, ho, _⟩ := mem_ready.1 hi
      have next := fun a' w' => wpAnyIn_of_C (l := l) (n := n) hnd hQ hp fuel (listed.setIfInBounds i true) a' w' (hcl.set hi) (by simp [hsz])
      have hsem := Oper.semAt_eq (Fence.wide.inRound l).round a.eval o (noDefer_spec (hnd i o ho))
      unfold stepC at h1
      unfold wpOpIn
      simp only [ho] at h1 ⊢
      by_cases hl : p.L.contains i = true
      · simp only [hl, if_true] at h1
        unfold loudOp at h1
        split
        · rename_i hw
          simp only [hw, if_true] at h1
          unfold Oper.wp at h1
          unfold Oper.wpIn
          refine ⟨fun _ _ => trivial, ?_⟩
          rw [hsem]
          generalize (execOp a.eval o).run P w = r at *
          cases r with
          | ok n w' =>
            cases n <;> simp only [Oper.upon] at h1 <;> simp only [Oper.uponIn]
            case value u => exact next _ _ h1
            case skip => exact next _ _ h1
            case defer d => exact next _ _ h1
            case enter f args =>
              refine ⟨fun h => (by simp [Fence.wide] at h), CallsIn.mono (callsIn_round h1) fun e w'' he => ?_⟩
              cases e with
              | returned u => exact next _ _ he
              | panicked c => exact he.elim
              | outgrown => obtain ⟨_, _, he⟩ := he; exact he.elim
            case row row args => exact ⟨fun h => (by simp [Fence.wide] at h), RowsIn.mono (rowsIn_wide' h1) fun u w'' he => next _ _ he⟩
          | halt x w' => cases x <;> simp only [Oper.upon, QF] at h1
        · rename_i hw
          simp only [hw] at h1
          exact ⟨fun _ _ => trivial, next _ _ h1⟩
      · simp only [hl] at h1
        obtain ⟨v, hy, hK⟩ := h1
        have hiL : i ∉ p.L := by simpa using hl
        have hilt : i < ops.size := (Array.getElem?_eq_some_iff.1 ho).1
        have hc := cls_holds hp hcl hsz hiL hilt (unl hiun) h.1
        rcases hy with ⟨hw, hv⟩ | ⟨hw, rfl⟩
        · simp only [hw, if_true]
          unfold Oper.wpIn
          refine ⟨fun _ _ => trivial, ?_⟩
          rw [hsem]
          rcases hv w hc with hv1 | ⟨hv1, hu⟩
          · rw [hv1]; exact next _ _ hK
          · subst hu; rw [hv1]; exact next _ _ hK
        · simp only [hw, Bool.false_eq_true, if_false]; exact ⟨fun _ _ => trivial, next _ _ hK⟩⟩
/-- **A REGION THAT DRAWS ITS ORDER, INSIDE A ROUND, WALKED IN THE TEXT's ORDER.** -/
theorem wpIn_region_text {l0 n id : Nat} {Q' : Exit → Act → World → Prop} {a : Act} {w : World} {l : List Oper} (p : Plan) (C : World → Prop) (hm : P.follows .mixedOrders = true) (hB : p.okB .any l.toArray = true) (hnd : l.all noDefer = true)
    (hC : C w.drew) (h : wpC P l.toArray p C (fun a' w' => Q' .normal a' w') 0 l a w.drew) : (Code.region id l.toArray true).wpIn (Fence.wide.inRound l0) n P Q' a w := by
  simp only [Plan.okB, Region.lexB, Bool.and_eq_true, Bool.or_eq_true, decide_eq_true_eq, List.all_eq_true, List.mem_range] at hB
  obtain ⟨⟨⟨hs, hlex⟩, hm'⟩, hall⟩ := hB
  have hmL : p.m < l.toArray.size → p.m ∈ p.L := fun h1 => by
    rcases hm' with h2 | h2
    · omega
    · simpa using h2
  have hbef : p.before .any l.toArray := fun i hiL hiD hilt => by
    have h1 := hall i hilt
    simp only [show p.L.contains i = false by simpa using hiL, show p.D.contains i = false by simpa using hiD, Bool.false_eq_true, if_false, Bool.false_or, Bool.or_eq_true, decide_eq_true_eq, Bool.and_eq_true, bne_iff_ne] at h1
    rcases h1 with h1 | h1
    · exact .inl h1
    · exact .inr ⟨h1.1, depB_spec _ _ h1.2⟩
  have hord : ∀ k j, k ∈ p.L → j ∈ p.L → k < j → j < l.toArray.size → Dep .any l.toArray k j := fun k j hk hj hkj hjlt => by
    have h1 := hall j hjlt
    simp only [show p.L.contains j = true by simpa using hj, if_true, List.all_eq_true, Bool.or_eq_true, decide_eq_true_eq] at h1
    rcases h1 k hk with (h2 | h2) | h2
    · omega
    · omega
    · exact depB_spec _ _ h2
  have hcl : Closed Region.Mode.any l.toArray (Array.replicate l.toArray.size false) := fun j o _ hl' => by
    rcases Nat.lt_or_ge j l.toArray.size with h1 | h1 <;> simp_all
  refine wpIn_region_any hm (wpAnyIn_of_C (Q := fun a' w' => Q' .normal a' w') (p := p) (C := C) (fun i o ho => ?_) (fun _ _ h => h) hbef _ _ _ _ hcl (by simp) ?_)
  · have := List.all_eq_true.1 hnd o
    exact this (by
      have h1 := Array.mem_of_getElem? ho
      simpa using h1)
  have := wpAnyC_lex (C := C) hs hbef hmL hord l 0 (Array.replicate l.toArray.size false) a { w with drawn := w.drawn + 1 } (by simp) (by simp) hcl (by simp)
    (fun j hj => by simp_all) (by simpa using hlex) (fun _ => hC) h
  simpa using this
end
end Go.Proofs.YtbjpfnafhhbmaaaDoor

/- (*stream.Stream).Range. -/
namespace Go.Proofs.YtbjpfnafhhbmaaaDoor.Sad
open Go.Proofs.YtbjpfnafhhbmaaaDoor
set_option linter.unusedVariables false
set_option linter.unusedSimpArgs false
open Go.RowKit RT Go.Shelf
attribute [local go_sem] Oper.semAt_some
theorem cell_block {w : World} {b o : Nat} {v : Value} (h : w.cell? ⟨b, o, none⟩ = some v) : ∃ cs t fz, w.heap[b]? = some (.cells cs t fz) := by
  unfold World.cell? at h
  cases hh : w.heap[b]? with
  | none => simp [hh] at h
  | some x => cases x <;> simp [hh] at h ⊢
theorem PairRow.grown {W W' : World} {row : Option Nat} (hg : W.grownBy W' row) (hr : ∀ r, row = some r → ∃ o : Obj, W.heap[r]? = some o ∧ o.isCells = false) {a : Option Addr} {n c : Nat} {L : List PairT} (h : PairRow W a n c L) : PairRow W' a n c L := by
  refine ⟨h.1, h.2.1, h.2.2.imp id ?_⟩
  rintro ⟨b, o, e, hc⟩
  refine ⟨b, o, e, fun i hi => ?_⟩
  obtain ⟨cs, t, fz, hb⟩ := cell_block (hc i hi).1
  have hb' := grown_keep hg hr hb
  have e1 : ∀ x, W'.cell? ⟨b, x, none⟩ = W.cell? ⟨b, x, none⟩ := fun x => by unfold World.cell?; simp only [hb, hb']
  rw [e1, e1]
  exact hc i hi
theorem Rows2.grown {W W' : World} {Q : Nat → Prop} {row : Option Nat} (hg : W.grownBy W' row) (hr : ∀ r, row = some r → ∃ o : Obj, W.heap[r]? = some o ∧ o.isCells = false) : ∀ {xs : List Told} {es : List Ent}, Rows2 W Q xs es → Rows2 W' Q xs es
  | [], [], _ => trivial
  | x :: xs, e :: es, h => ⟨⟨h.1.1, PairRow.grown hg hr h.1.2.1, h.1.2.2⟩, Rows2.grown hg hr h.2⟩
  | [], _ :: _, h => h.elim
  | _ :: _, [], h => h.elim
theorem EntsOut.grown {W W' : World} {row : Option Nat} (hg : W.grownBy W' row) (hr : ∀ r, row = some r → ∃ o : Obj, W.heap[r]? = some o ∧ o.isCells = false) {n₀ : Nat} {v : Value} {E : List Ent} (h : EntsOut W n₀ v E) : EntsOut W' n₀ v E := by
  obtain ⟨Vs, h1, h2, h3⟩ := h
  exact ⟨Vs, grown_slice hg hr h1, Rows2.grown hg hr h2, h3⟩
theorem EntsOut.chg {w w' : World} {n₀ : Nat} {v : Value} {E : List Ent} (h : EntsOut w n₀ v E) {S : Nat → Prop} (hc : Chg S w w') (hs : ∀ b, n₀ ≤ b → ¬ S b) : EntsOut w' n₀ v E := by
  obtain ⟨Vs, h1, h2, h3⟩ := h
  exact ⟨Vs, h1.chg hc fun k hk => hs k (h1.block_lt hk).1, Rows2.chg hc (fun b hb => hs b hb.1) h2, h3⟩
theorem EntsOut.mono {w : World} {n₀ n₁ : Nat} {v : Value} {E : List Ent} (h : EntsOut w n₀ v E) (hn : n₁ ≤ n₀) : EntsOut w n₁ v E := by
  obtain ⟨Vs, h1, h2, h3⟩ := h
  exact ⟨Vs, h1.mono hn, Rows2.imp (fun b _ hb => ⟨Nat.le_trans hn hb.1, hb.2⟩) h2, h3⟩
theorem EntsOut.form {w : World} {n₀ : Nat} {v : Value} {E : List Ent} (h : EntsOut w n₀ v E) : ∃ a c, v = .slice a E.length c ∧ E.length ≤ c ∧ c ≤ maxLen := by
  obtain ⟨Vs, h1, h2, h3⟩ := h
  have := h1.form
  rw [h2.length] at this
  exact this
theorem EntsOut.vb {w : World} {n₀ : Nat} {v : Value} {E : List Ent} (h : EntsOut w n₀ v E) {g : Nat} (hg : vblock v = some g) : n₀ ≤ g ∧ g < w.heap.size ∧ ∃ cur fz, w.heap[g]? = some (.cells cur 39 fz) := by
  obtain ⟨Vs, h1, h2, h3⟩ := h
  refine ⟨(h1.block_lt hg).1, (h1.block_lt hg).2, ?_⟩
  obtain ⟨g', cap, cur, he, _, ⟨fz, _, hh⟩, _⟩ := h1.2.resolve_left (fun h => by rw [h.1] at hg; cases hg)
  rw [he] at hg
  cases hg
  exact ⟨cur, fz, hh⟩
theorem take_all {α : Type} {p : α → Bool} {m : Int} : ∀ (L : List α) (k : Nat), (∀ i (h : i < L.length), ((k + i : Nat) : Int) < m ∧ p L[i] = true) → (L.takeWhile p).take (m.toNat - k) = L
  | [], k, _ => by simp
  | x :: L, k, h => by
    have h0 := h 0 (by simp)
    have ih := take_all (p := p) (m := m) L (k + 1) fun i hi => by
      have := h (i + 1) (by simpa using hi)
      simpa [Nat.add_assoc, Nat.add_comm 1] using this
    rw [List.takeWhile_cons, if_pos (by simpa using h0.2)]
    have e : m.toNat - k = (m.toNat - (k + 1)) + 1 := by have := h0.1; omega
    rw [e, List.take_succ_cons, ih]
theorem take_pre {α : Type} {p : α → Bool} {m : Int} (rest : List α) (x : α) : ∀ (L : List α) (k : Nat), (∀ i (h : i < L.length), ((k + i : Nat) : Int) < m ∧ p L[i] = true) → (m ≤ ((k + L.length : Nat) : Int) ∨ p x = false) → ((L ++ x :: rest).takeWhile p).take (m.toNat - k) = L
  | [], k, _, hx => by
    rw [List.nil_append, List.takeWhile_cons]
    rcases hx with hx | hx
    · have e : m.toNat - k = 0 := by simp at hx; omega
      rw [e]; simp
    · rw [if_neg (by simp [hx])]; simp
  | y :: L, k, h, hx => by
    have h0 := h 0 (by simp)
    have ih := take_pre (p := p) (m := m) rest x L (k + 1) (fun i hi => by
      have := h (i + 1) (by simpa using hi)
      simpa [Nat.add_assoc, Nat.add_comm 1] using this) (by simpa [Nat.add_assoc, Nat.add_comm 1] using hx)
    rw [List.cons_append, List.takeWhile_cons, if_pos (by simpa using h0.2)]
    have e : m.toNat - k = (m.toNat - (k + 1)) + 1 := by have := h0.1; omega
    rw [e, List.take_succ_cons, ih]
/-- What Range has collected. -/
def GotE (w : World) (n₀ c d : Nat) (most : Int) {α : Type} (val : α → Told) (pre : List α) (W : World) : Prop :=
  Below n₀ w W ∧ n₀ + 6 ≤ W.heap.size ∧ (W.heap[n₀ + 1]? = some (.cells #[.int .u64 c, .int .u64 d] 24 (0, 0)) ∧ W.heap[n₀ + 1 + 1]? = some (.cells #[.int .i64 most] 3 (0, 0))) ∧
    (∃ v, W.heap[n₀ + 1 + 1 + 1]? = some (.cells #[v] 34 (0, 0)) ∧ EntsOut W (n₀ + 6) v (pre.map fun x => entOf w (val x))) ∧ ∀ i (h : i < pre.length), (i : Int) < most ∧ (!lessN (c, d) (idT2 (val pre[i]))) = true
theorem GotE.own {w : World} {n₀ c d : Nat} {most : Int} {α : Type} {val : α → Told} {B : Nat} (hB : n₀ ≤ B) : OwnFrom B (GotE w n₀ c d most val) := by
  rintro pre W W' row ⟨h1, h2, ⟨h3, h4⟩, ⟨v, h5, h6⟩, h7⟩ hg hr
  exact ⟨grown_below h1 hg (fun r e => (hr r e).1) hB (by omega), Nat.le_trans h2 hg.size, ⟨grown_keep hg (fun r e => (hr r e).2) h3, grown_keep hg (fun r e => (hr r e).2) h4⟩, ⟨v, grown_keep hg (fun r e => (hr r e).2) h5, h6.grown hg fun r e => (hr r e).2⟩, h7⟩
/-- .. and stopped. -/
def StopE (w : World) (n₀ c d : Nat) (most : Int) {α : Type} (val : α → Told) (cd : Code) (ys : List α) (W : World) : Prop :=
  cd = .exit 0 ∧ ∃ pre x, ys = pre ++ [x] ∧ GotE w n₀ c d most val pre W ∧ (most ≤ (pre.length : Int) ∨ (!lessN (c, d) (idT2 (val x))) = false)
theorem StopE.own {w : World} {n₀ c d : Nat} {most : Int} {α : Type} {val : α → Told} {cd : Code} {B : Nat} (hB : n₀ ≤ B) : OwnFrom B (StopE w n₀ c d most val cd) := by
  rintro ys W W' row ⟨h0, pre, x, h1, h2, h3⟩ hg hr
  exact ⟨h0, pre, x, h1, GotE.own hB pre W W' row h2 hg hr, h3⟩
/-- The frame of a round. -/
def AxE (tm : Array Value) (x : Told) (a' : Act) (W : World) : Prop :=
  ∃ Bx, W.heap[Bx]? = some (.cells #[.int .u64 x.1, .int .u64 x.2.1] 24 (0, 0)) ∧ a' = { tmps := (((tm.setIfInBounds 21 (.agg #[.int .u64 x.1, .int .u64 x.2.1])).setIfInBounds 22 (vC x.2.2)).setIfInBounds 10 (.pointer (some ⟨Bx, 0, none⟩))).setIfInBounds 11 (vC x.2.2), defers := [] }
theorem AxE.own (tm : Array Value) (x : Told) (a' : Act) (B : Nat) : OwnFrom B (fun (_ : Unit) W => AxE tm x a' W) := by
  rintro _ W W' row ⟨Bx, h1, h2⟩ hg hr
  exact ⟨Bx, grown_keep hg (fun r e => (hr r e).2) h1, h2⟩
set_option maxHeartbeats 3200000 in
set_option maxRecDepth 100000 in
theorem stmRange {w : World} {s p : Nat} {G : Nat → Prop} {T : Option RT} {n ms q : Nat} (h : StmF w s p G T n ms q) {Q : Nat → Prop} {E : List Ent} (hE : Rows2 w Q (toldL T (idBytes 0 0)) E) (hnodes : nodesO T ≤ 1000000) {a b c d : Nat} (ha : a < 18446744073709551616) (hb : b < 18446744073709551616) {most : Int} :
    Calls Tryd.prog 15 #[ptrV s, .agg #[.int .u64 a, .int .u64 b], .agg #[.int .u64 c, .int .u64 d], .int .i64 most] w fun e w' => ∃ v, e = .returned v ∧ EntsOut w' w.heap.size v (((E.filter fun e => !lessN e.1 (a, b)).takeWhile fun e => !lessN (c, d) e.1).take most.toNat) ∧ Below w.heap.size w w' := by
  obtain ⟨w1, hw1⟩ : ∃ w1, w1 = (((w.alloc (.cells #[.int .u64 a, .int .u64 b] 24)).alloc (.cells #[.int .u64 c, .int .u64 d] 24)).alloc (.cells #[.int .i64 most] 3)).alloc (.cells #[.slice none 0 0] 34) := ⟨_, rfl⟩
  have hs1 : w1.heap.size = w.heap.size + 4 := by rw [hw1]; simp
  have hb1 : Below w.heap.size w w1 := by rw [hw1]; exact ((((Below.refl _ _).alloc (Nat.le_refl _) _).alloc (by simp) _).alloc (by simp; omega) _).alloc (by simp; omega) _
  have k5 : w1.heap[w.heap.size]? = some (.cells #[.int .u64 a, .int .u64 b] 24 (0, 0)) := by rw [hw1]; exact heap_old (heap_old (heap_old (heap_new _ _) _) _) _
  have k6 : w1.heap[w.heap.size + 1]? = some (.cells #[.int .u64 c, .int .u64 d] 24 (0, 0)) := by
    rw [hw1]
    have := heap_new (w.alloc (.cells #[.int .u64 a, .int .u64 b] 24)) (.cells #[.int .u64 c, .int .u64 d] 24)
    rw [World.size_alloc] at this
    exact heap_old (heap_old this _) _
  have k7 : w1.heap[w.heap.size + 1 + 1]? = some (.cells #[.int .i64 most] 3 (0, 0)) := by
    rw [hw1]
    have := heap_new ((w.alloc (.cells #[.int .u64 a, .int .u64 b] 24)).alloc (.cells #[.int .u64 c, .int .u64 d] 24)) (.cells #[.int .i64 most] 3)
    rw [World.size_alloc, World.size_alloc] at this
    exact heap_old this _
  have k9 : w1.heap[w.heap.size + 1 + 1 + 1]? = some (.cells #[.slice none 0 0] 34 (0, 0)) := by
    rw [hw1]
    have := heap_new (((w.alloc (.cells #[.int .u64 a, .int .u64 b] 24)).alloc (.cells #[.int .u64 c, .int .u64 d] 24)).alloc (.cells #[.int .i64 most] 3)) (.cells #[.slice none 0 0] 34)
    rw [World.size_alloc, World.size_alloc, World.size_alloc] at this
    exact this
  have h1 := h.below hb1
  have HT := Lib.hid (stmThere h1)
  obtain ⟨w3, hw3⟩ : ∃ w3, w3 = ((w1.drewN 1).alloc (.cells #[.pointer (some ⟨p, 0, none⟩)] 51)).alloc (.cells #[.int .u64 a, .int .u64 b] 24) := ⟨_, rfl⟩
  have hb13 : Below w1.heap.size w1 w3 := by rw [hw3]; exact ((belowN (Below.refl _ _) 1).alloc (Nat.le_refl _) _).alloc (by simp) _
  have hb3 : Below w.heap.size w w3 := hb1.trans (hb13.mono hb1.size)
  have hs3 : w3.heap.size = w.heap.size + 6 := by rw [hw3]; simp [hs1]
  have hbt3 : w3.cell? ⟨w1.heap.size, 0, none⟩ = some (.pointer (some ⟨p, 0, none⟩)) := by rw [hw3]; exact cell_in (heap_old (heap_new _ _) _) rfl
  have hbi3 : w3.heap[w1.heap.size + 1]? = some (.cells #[.int .u64 a, .int .u64 b] 24 (0, 0)) := by
    rw [hw3]
    have := heap_new ((w1.drewN 1).alloc (.cells #[.pointer (some ⟨p, 0, none⟩)] 51)) (.cells #[.int .u64 a, .int .u64 b] 24)
    rw [World.size_alloc] at this
    exact this
  have HF := Lib.hid (show Calls Tryd.prog 36 #[.pointer (some ⟨p, 0, none⟩), .agg #[.int .u64 a, .int .u64 b]] (w1.drewN 1) fun e w' => e = .returned (.func (.func 60) #[] #[.pointer (some ⟨w1.heap.size, 0, none⟩), .pointer (some ⟨w1.heap.size + 1, 0, none⟩)]) ∧ w' = w3 by rw [hw3]; exact radFrom (w1.drewN 1) p a b)
  have HSeq := Lib.hid (radStopsM (h.tree.below hb3) ha hb hbt3 hbi3 hnodes 2)
  obtain ⟨Tl, hTl⟩ : ∃ Tl, toldL T (idBytes a b) = Tl := ⟨_, rfl⟩
  rw [hTl] at HSeq
  have hTl2 : Tl = (toldL T (idBytes 0 0)).filter fun x => !lessN (idT2 x) (a, b) := by rw [← hTl]; exact told_from h.tree.wf ha hb
  have hEl : (E.filter fun e => !lessN e.1 (a, b)) = Tl.map (entOf w) := by
    rw [hTl2]
    exact (Rows2.filter (p := fun e => !lessN e.1 (a, b)) hE).ents
  have HEl := Lib.hid hEl
  have HRow := Lib.hid (show ∀ x ∈ Tl, PairRow w x.2.2.1 x.2.2.2.1 x.2.2.2.2 (entOf w x).2 ∧ 0 < x.2.2.2.1 ∧ x.2.2.2.1 ≤ 4000000000000 from fun x hx => by
    rw [hTl2] at hx
    obtain ⟨e, _, hr⟩ := hE.mem x (List.mem_filter.1 hx).1
    rw [hr.ent]
    exact ⟨hr.2.1, hr.2.2.1⟩)
  have hN : Tl.length ≤ 1000000 := by
    have h1 := List.length_filter_le (fun p : List UInt8 × VT => !decide (p.1 < idBytes a b)) (itemsO T)
    have h2 := (nodesO_le h.tree.wf).2.1
    rw [← hTl]
    unfold toldL fromL
    rw [List.length_map]
    omega
  have HN := Lib.hid hN
  have HC := Lib.hid (show ∀ w', Below w1.heap.size w1 w' → w'.cell? ⟨s, 0, none⟩ = some (ptrV p) ∧ w'.cell? ⟨w.heap.size, 0, none⟩ = some (.int .u64 a) ∧ w'.cell? ⟨w.heap.size, 1, none⟩ = some (.int .u64 b) from fun w' hb => by
    have e1 := (hb.block _ (heap_lt h1.head)).trans h1.head
    have e2 := (hb.block _ (heap_lt k5)).trans k5
    exact ⟨cell_in e1 rfl, cell_in e2 rfl, cell_in e2 rfl⟩)
  have HW1 := Lib.hid hw1
  have HS1 := Lib.hid hs1
  have HS3 := Lib.hid hs3
  have HB3 := Lib.hid hb3
  have HK := Lib.hid (And.intro ((hb13.block _ (heap_lt k6)).trans k6) (And.intro ((hb13.block _ (heap_lt k7)).trans k7) ((hb13.block _ (heap_lt k9)).trans k9)))
  have HG0 := Lib.hid (show GotE w w.heap.size c d most (fun x : { x // x ∈ Tl } => x.1) [] w3 from
    ⟨hb3, by omega, ⟨(hb13.block _ (heap_lt k6)).trans k6, (hb13.block _ (heap_lt k7)).trans k7⟩, ⟨_, (hb13.block _ (heap_lt k9)).trans k9, EntsOut.nil _ _⟩, fun i h => absurd h (by simp)⟩)
  obtain ⟨tm, htm⟩ : ∃ tm : Array Value, tm = #[.pointer (some ⟨s, 0, none⟩), .agg #[.int .u64 a, .int .u64 b], .agg #[.int .u64 c, .int .u64 d], .int .i64 most, undef, .pointer (some ⟨w.heap.size, 0, none⟩), .pointer (some ⟨w.heap.size + 1, 0, none⟩), .pointer (some ⟨w.heap.size + 1 + 1, 0, none⟩), .slice none 0 0, .pointer (some ⟨w.heap.size + 1 + 1 + 1, 0, none⟩), undef, undef, .pointer (some ⟨s, 0, none⟩), .bool true, .bool false, .pointer (some ⟨s, 0, none⟩), .pointer (some ⟨s, 0, none⟩), .pointer (some ⟨s, 0, none⟩), .pointer (some ⟨p, 0, none⟩), .agg #[.int .u64 a, .int .u64 b], .func (.func 60) #[] #[.pointer (some ⟨w1.heap.size, 0, none⟩), .pointer (some ⟨w1.heap.size + 1, 0, none⟩)], undef, undef, undef, undef, undef, undef, undef, undef, undef, undef, undef, undef, undef, undef, undef, undef, undef, undef, undef] := ⟨_, rfl⟩
  have HTm := Lib.hid htm
  have c0 := HC.out w1.drew (belowN (Below.refl _ _) 1)
  obtain ⟨X1, f, hX1, hf, hF⟩ := classOf (fun w' => w'.cell? ⟨s, 0, none⟩ = some (ptrV p) ∧ w'.cell? ⟨w.heap.size, 0, none⟩ = some (.int .u64 a) ∧ w'.cell? ⟨w.heap.size, 1, none⟩ = some (.int .u64 b)) (w := w1.drew) c0
  have f1 := fun x => (hf x).1
  have f2 := fun x => (hf x).2.1
  have f3 := fun x => (hf x).2.2
  have HFa := Lib.hid (hF w1.drew c0)
  clear htm hF hf h h1 hE hnodes hw1 hs1 hb1 k5 k6 k7 k9 hw3 hb13 hb3 hs3 hbt3 hbi3 c0 hTl hTl2 hEl hN
  unfold ptrV at *
  refine callsIn_wide.1 (callsIn_of_wp_marks (n := 3) Tryd.func15 rfl trivial ?_ rfl)
  refine wpIn_wide.2 ?_
  simp only [Tryd.ntmps15, List.size_toArray, List.length_cons, List.length_nil, Nat.reduceAdd, Nat.reduceSub, Array.replicate_succ, Array.replicate_zero, List.push_toArray, List.append_toArray, List.nil_append, List.cons_append]
  go_wp2_with fail
  rw [← HW1.out]
  refine HT.out.mono ?_
  rintro e w' ⟨rfl, hww⟩
  rw [hww]
  clear hww w'
  go_upto_region 4 with (fail)
  refine wp_region_text ⟨[5], [], 5⟩ (fun w' => ∃ x : X1, w' = f x) (by kernel_rfl) (by kernel_rfl) HFa.out ?_
  refine wpC_seg false (HFa.out) 5 0 _ _ (by rfl) (by rfl) ?_
  simp only [List.take_succ_cons, List.take_zero, List.drop_succ_cons, List.drop_zero, Bool.false_eq_true, if_false, Nat.zero_add, Nat.reduceAdd]
  repeat (go_big_quiet_step (fail))
  refine wpQuiet_nil ?_
  refine wpC_loud (by rfl) (by rfl) fun K hK => ?_
  go_wp2_with fail
  refine HF.out.mono ?_
  rintro e w3' ⟨rfl, hww⟩
  rw [hww]
  refine hK _ _ (fun h => absurd h (by decide)) ?_
  clear hK hww w3' HF
  refine wpC_nil ?_
  clear f1 f2 f3 hX1 HFa f
  go_wp2_with fail
  refine (wpIn_wide (n := 3)).1 ?_
  refine wpIn_rangeFunc_ownH (α := { x // x ∈ Tl }) (F := Fence.wide) rfl (by omega) (gf := 60) (lb := #[.pointer (some ⟨w1.heap.size, 0, none⟩), .pointer (some ⟨w1.heap.size + 1, 0, none⟩)]) rfl trivial (fun args w => rfl) HSeq.out KeepE.trans (fun W l o o' _ hl ho _ => KeepE.putObj W l o o' hl ho) (Below.refl _ _) (fun _ => rfl)
    (GotE w w.heap.size c d most (fun x : { x // x ∈ Tl } => x.1)) (StopE w w.heap.size c d most (fun x : { x // x ∈ Tl } => x.1)) (GotE.own (by have := HS3.out; omega)) (fun _ => StopE.own (by have := HS3.out; omega)) HG0.out (fun x => AxE tm x.1) (fun x a' => AxE.own tm x.1 a' _) ?assign ?body ?done ?stop
  case stop =>
    rintro D cd ys W hD hp ⟨rfl, pre, x, rfl, hI, hs⟩ hK
    have hres : pre.map (fun x : { x // x ∈ Tl } => entOf w x.1) = ((E.filter fun e => !lessN e.1 (a, b)).takeWhile fun e => !lessN (c, d) e.1).take most.toNat := by
      obtain ⟨rest, hrest⟩ := hp
      have hT : Tl.map (entOf w) = (pre.map fun x : { x // x ∈ Tl } => entOf w x.1) ++ entOf w x.1 :: rest.map (entOf w) := by
        have := congrArg (List.map (entOf w)) hrest
        rw [← this]
        simp [List.map_append, Function.comp_def]
      rw [HEl.out, hT]
      have h1 := take_pre (p := fun e : Ent => !lessN (c, d) e.1) (m := most) (rest.map (entOf w)) (entOf w x.1) (pre.map (fun x : { x // x ∈ Tl } => entOf w x.1)) 0 (fun i hi => by
        have := hI.2.2.2.2 i (by simpa using hi)
        simp only [Nat.zero_add, List.getElem_map]
        exact this) (by rw [Nat.zero_add, List.length_map]; exact hs)
      rw [Nat.sub_zero] at h1
      exact h1.symm
    have HR := Lib.hid hres
    obtain ⟨i1, i2, i3, ⟨v, i4, i5⟩, i6⟩ := hI
    have l0 := cell_in i4 (i := 0) rfl
    have HI := Lib.hid (And.intro i1 (And.intro i2 i5))
    clear i1 i2 i3 i4 i5 i6 hs hp hres
    refine wpIn_exit ?_
    go_wp2_with fail
    refine ⟨by simp, .inl ⟨_, _, rfl, run_takeDeferred hK, ?_⟩⟩
    refine ⟨_, results_tmp rfl _ _ _, ?_⟩
    obtain ⟨i1, i2, i5⟩ := HI.out
    have hg := grownBy_putObj' W D (.deferred none)
    have hr : ∀ r, some D = some r → ∃ o : Obj, W.heap[r]? = some o ∧ o.isCells = false := fun r e => by cases e; exact ⟨_, hK, rfl⟩
    refine ⟨_, rfl, ?_, grown_below i1 hg (fun r e => by cases e; have := HS3.out; omega) (Nat.le_refl _) (by omega)⟩
    rw [← HR.out]
    exact (i5.grown hg hr).mono (by omega)
  case assign =>
    intro l pre x W K hI hK
    have HI := Lib.hid hI
    unfold encs
    clear hI
    gi_wp2
    refine hK _ _ ((KeepsOthers.alloc _ _).from _) ?_ ?_ ⟨W.heap.size, heap_new _ _, ?_⟩
    · exact KeepE.chg (S := fun _ => False) (Chg.alloc _ _ _) fun _ _ _ h => h.elim
    · exact (GotE.own (Nat.le_refl _)).alloc _ HI.out
    · rw [HTm.out]; rfl
  case body =>
    rintro l pre ⟨⟨xm, xq, av, nv, cv⟩, hx⟩ a' W _ _ hI ⟨Bx, hBx, rfl⟩ hlen
    have HI := Lib.hid hI
    obtain ⟨i1, i2, ⟨i3, i3'⟩, ⟨v, i4, i5⟩, i6⟩ := hI
    obtain ⟨ao, co, rfl, hco, hcm⟩ := i5.form
    rw [List.length_map] at i4 hco i5
    dsimp only at hBx
    have x0 := cell_in hBx (i := 0) rfl
    have x1 := cell_in hBx (i := 1) rfl
    have l0 := cell_in i4 (i := 0) rfl
    have l1 := cell_in i3' (i := 0) rfl
    have l2 := cell_in i3 (i := 0) rfl
    have l3 := cell_in i3 (i := 1) rfl
    have hN := HN.out
    have hrow := HRow.out _ hx
    obtain ⟨L, hL⟩ : ∃ L, (entOf w (xm, xq, av, nv, cv)).2 = L := ⟨_, rfl⟩
    rw [hL] at hrow
    dsimp only at hrow
    have hent : entOf w (xm, xq, av, nv, cv) = ((xm, xq), L) := by rw [← hL]; rfl
    have HBl := Lib.hid (fun w' => stmBelow c d xm xq w')
    have HI5 := Lib.hid (And.intro i1 (And.intro i2 (And.intro i5 (And.intro i4 (And.intro hBx (And.intro hco hcm))))))
    have HRw := Lib.hid (And.intro hrow hent)
    have HLen := Lib.hid hlen
    have HStop := Lib.hid (show ∀ W', Below W.heap.size W W' → (most ≤ (pre.length : Int) ∨ lessN (c, d) (xm, xq) = true) → ownPostG w3.heap.size KeepE (GotE w w.heap.size c d most (fun x : { x // x ∈ Tl } => x.1)) (StopE w w.heap.size c d most (fun x : { x // x ∈ Tl } => x.1)) (pre ++ [⟨(xm, xq, av, nv, cv), hx⟩]) W (.exit 0) { tmps := #[], defers := [] } W' from fun W' hb hs => by
      refine ⟨keepsFrom_of (S := fun _ => False) _ (Chg.of_below _ hb) fun k hk => hk.elim, rfl, pre, ⟨(xm, xq, av, nv, cv), hx⟩, rfl, ?_, hs.imp id fun h => by rw [show idT2 (xm, xq, av, nv, cv) = (xm, xq) from rfl, h]; rfl⟩
      exact GotE.own (Nat.le_refl _) pre W W' none HI.out (grown_of hb) fun r e => by cases e)
    obtain ⟨y, hy⟩ : ∃ y, lessN (c, d) (xm, xq) = y := ⟨_, rfl⟩
    rw [hy] at HBl
    rw [HTm.out]
    clear i1 i2 i3 i3' i4 i5 i6 hBx hrow hL hent hlen hN hco hcm
    simp only [List.setIfInBounds_toArray, List.set_cons_succ, List.set_cons_zero, vC]
    by_cases hm : most ≤ (pre.length : Int)
    · have e1 : decide (most ≤ (pre.length : Int)) = true := decide_eq_true hm
      have HSt := Lib.hid (HStop.out W (Below.refl _ _) (.inl hm))
      clear hm hy
      gi_wp2_with fail
      refine ⟨trivial, ?_⟩
      gi_wp2_with fail
      exact HSt.out
    · have e1 : decide (most ≤ (pre.length : Int)) = false := decide_eq_false hm
      have HM := Lib.hid (And.intro hm hy)
      clear hm hy
      gi_wp2_with fail
      refine ⟨trivial, (callsIn_round (HBl.out W)).mono ?_⟩
      rintro e W2 ⟨rfl, b2⟩
      have HB2 := Lib.hid b2
      clear b2 x0 x1 l0 l1 l2 l3
      cases y
      case' true =>
        have HSt := Lib.hid (HStop.out W2 HB2.out (.inr HM.out.2))
        gi_wp2_with fail
        exact HSt.out
      case' false =>
        have hbb : Below w.heap.size w (W2.drewN 1) := HI5.out.1.trans ((belowN HB2.out 1).mono (by have := HI5.out.2.1; omega))
        have hWsz := HB2.out.size
        have h4 := (HB2.out.block _ (heap_lt HI5.out.2.2.2.1)).trans HI5.out.2.2.2.1
        have hBx2 := (HB2.out.block _ (heap_lt HI5.out.2.2.2.2.1)).trans HI5.out.2.2.2.2.1
        have hrow2 := HRw.out.1.1.below hbb
        have HCl := Lib.hid (clone_any hrow2 HRw.out.1.2.1 HRw.out.1.2.2)
        have HC2 := Lib.hid (show ∀ w', Below W2.heap.size W2 w' → w'.cell? ⟨w.heap.size + 1 + 1 + 1, 0, none⟩ = some (.slice ao pre.length co) ∧ w'.cell? ⟨Bx, 0, none⟩ = some (.int .u64 xm) ∧ w'.cell? ⟨Bx, 1, none⟩ = some (.int .u64 xq) from fun w' hb => by
          have e1 := (hb.block _ (heap_lt h4)).trans h4
          have e2 := (hb.block _ (heap_lt hBx2)).trans hBx2
          exact ⟨cell_in e1 rfl, cell_in e2 rfl, cell_in e2 rfl⟩)
        have c0 := HC2.out W2.drew (belowN (Below.refl _ _) 1)
        obtain ⟨X1, f, hX1, hf, hF⟩ := classOf (fun w' => w'.cell? ⟨w.heap.size + 1 + 1 + 1, 0, none⟩ = some (.slice ao pre.length co) ∧ w'.cell? ⟨Bx, 0, none⟩ = some (.int .u64 xm) ∧ w'.cell? ⟨Bx, 1, none⟩ = some (.int .u64 xq)) (w := W2.drew) c0
        have f1 := fun x => (hf x).1
        have f2 := fun x => (hf x).2.1
        have f3 := fun x => (hf x).2.2
        have HF1 := Lib.hid hF
        have HFa := Lib.hid (hF W2.drew c0)
        have HH4 := Lib.hid (And.intro h4 hbb)
        clear hF hf hbb hWsz h4 hBx2 hrow2 c0
        gi_upto_region 8 with (fail)
        refine wpIn_region_text ⟨[3, 5, 6, 7], [4], 6⟩ (fun w' => ∃ x : X1, w' = f x) (by kernel_rfl) (by kernel_rfl) (by kernel_rfl) HFa.out ?_
        refine wpC_seg false (HFa.out) 3 0 _ _ (by rfl) (by rfl) ?_
        simp only [List.take_succ_cons, List.take_zero, List.drop_succ_cons, List.drop_zero, Bool.false_eq_true, if_false, Nat.zero_add, Nat.reduceAdd]
        repeat (go_big_quiet_step (fail))
        refine wpQuiet_nil ?_
        refine wpC_loud (by rfl) (by rfl) fun K hK => ?_
        go_wp2_with fail
        refine HCl.out.mono ?_
        rintro e W3 ⟨b, c', rfl, hpr, hbge, b3⟩
        have HB3' := Lib.hid ((belowN (Below.refl W2.heap.size W2) 1).trans b3)
        have HF3 := Lib.hid (HF1.out W3 (HC2.out W3 HB3'.out))
        have HPr := Lib.hid (And.intro hpr hbge)
        refine hK _ _ (fun _ => HF3.out) ?_
        clear hK hpr hbge b3 HCl
        refine wpC_seg true (HF3.out) 1 4 _ _ (by rfl) (by rfl) ?_
        simp only [List.take_succ_cons, List.take_zero, List.drop_succ_cons, List.drop_zero, if_true, Nat.zero_add, Nat.reduceAdd]
        repeat (go_big_quiet_step (fail))
        refine wpQuiet_nil ?_
        refine wpC_loud (by rfl) (by rfl) fun K hK => ?_
        go_wp2_with fail
        obtain ⟨W4, hW4⟩ : ∃ W4, W4 = W3.alloc (.cells #[.int .u64 xm, .int .u64 xq, .slice (some ⟨b, 0, none⟩) nv c'] 39) := ⟨_, rfl⟩
        rw [← hW4]
        have hb24 : Below W2.heap.size W2 W4 := by rw [hW4]; exact HB3'.out.alloc HB3'.out.size _
        have HF4 := Lib.hid (HF1.out W4 (HC2.out W4 hb24))
        have hW03 : Below W.heap.size W W3 := HB2.out.trans (HB3'.out.mono HB2.out.size)
        have hxr : RowIs W3 (fun k => W.heap.size ≤ k) (xm, xq, some ⟨b, 0, none⟩, nv, c') ((xm, xq), L) :=
          ⟨rfl, HPr.out.1, HRw.out.1.2, b, rfl, Nat.le_trans HB2.out.size HPr.out.2⟩
        obtain ⟨v', W5, hr, o5, c5, hv5⟩ := HI5.out.2.2.1.append hW03 (by have := HI5.out.2.1; omega) hxr (by rw [List.length_map]; have := HLen.out; have := HN.out; omega)
        obtain ⟨ax, ln, cx, rfl⟩ : ∃ ax ln cx, v' = .slice ax ln cx := by obtain ⟨ax, cx, e, _⟩ := o5.form; exact ⟨_, _, _, e⟩
        have hr' : (Builtin.append_ #[34, 34] 34 #[.slice ao pre.length co, .slice (some ⟨W3.heap.size, 0, none⟩) 1 1]).run Tryd.prog W4 = .ok (.slice ax ln cx) W5 := by rw [hW4]; exact hr
        have HR := Lib.hid hr'
        have hne : ∀ k, vblock (.slice ao pre.length co) = some k → k ≠ w.heap.size + 1 + 1 + 1 := fun k hk => by have := (HI5.out.2.2.1.vb hk).1; omega
        have h43 := (hW03.block _ (heap_lt HI5.out.2.2.2.1)).trans HI5.out.2.2.2.1
        have h45 := c5.keep h43 fun hk => hne _ hk rfl
        have q0 := cell_in h45 (i := 0) rfl
        have q1 := frozen_in h45 0
        obtain ⟨W6, hW6⟩ : ∃ W6, W6 = W5.setCell ⟨w.heap.size + 1 + 1 + 1, 0, none⟩ (.slice ax ln cx) := ⟨_, rfl⟩
        have h46 : W6.heap[w.heap.size + 1 + 1 + 1]? = some (.cells #[.slice ax ln cx] 34 (0, 0)) := by rw [hW6]; exact setCell_head h45 0 _
        have c56 : Chg (fun k => k = w.heap.size + 1 + 1 + 1) W5 W6 := by rw [hW6]; exact Chg.setCell _ _ _ _ rfl
        have cAll : Chg (fun k => vblock (.slice ao pre.length co) = some k ∨ k = w.heap.size + 1 + 1 + 1) W W6 := (((Chg.of_below _ hW03).trans c5 fun k hk _ => hk).mono fun k hk _ => .inl hk).trans c56 fun k hk _ => .inr hk
        have HFin := Lib.hid (show ownPostG w3.heap.size KeepE (GotE w w.heap.size c d most (fun x : { x // x ∈ Tl } => x.1)) (StopE w w.heap.size c d most (fun x : { x // x ∈ Tl } => x.1)) (pre ++ [⟨(xm, xq, av, nv, cv), hx⟩]) W .normal { tmps := #[], defers := [] } W6 from by
          have hI := HI.out
          refine ⟨keepsFrom_of _ cAll fun k hk o ho => ?_, KeepE.chg cAll fun k cs fz hk he => ?_, belowChg HI5.out.1 cAll (by have := HI5.out.2.1; omega) fun k hk _ => ?_, Nat.le_trans HI5.out.2.1 cAll.size, ⟨cAll.keep hI.2.2.1.1 ?_, cAll.keep hI.2.2.1.2 ?_⟩, ⟨_, h46, ?_⟩, fun i hi => ?_⟩
          · rcases hk with hk | rfl
            · obtain ⟨_, _, cur, fz, hh⟩ := HI5.out.2.2.1.vb hk
              rw [hh] at ho; cases ho; rfl
            · rw [HI5.out.2.2.2.1] at ho; cases ho; rfl
          · rcases hk with hk | rfl
            · obtain ⟨_, _, cur, fz', hh⟩ := HI5.out.2.2.1.vb hk
              rw [hh] at he; cases he
            · rw [HI5.out.2.2.2.1] at he; cases he
          · rcases hk with hk | rfl
            · have := (HI5.out.2.2.1.vb hk).1; omega
            · omega
          · rintro (hk | hk)
            · have := (HI5.out.2.2.1.vb hk).1; omega
            · omega
          · rintro (hk | hk)
            · have := (HI5.out.2.2.1.vb hk).1; omega
            · omega
          · have := o5.chg c56 fun k hk e => by omega
            rw [List.map_append]
            simp only [List.map_cons, List.map_nil]
            rw [HRw.out.2]
            exact this
          · rw [List.length_append, List.length_singleton] at hi
            rcases Nat.lt_or_ge i pre.length with h' | h'
            · rw [List.getElem_append_left h']
              exact hI.2.2.2.2 i h'
            · obtain rfl : i = pre.length := by omega
              have hmm := HM.out.1
              have hmy := HM.out.2
              simp only [List.getElem_append_right (Nat.le_refl _), Nat.sub_self, List.getElem_singleton]
              refine ⟨by omega, ?_⟩
              show (!lessN (c, d) (xm, xq)) = true
              rw [hmy]; rfl)
        have HW6 := Lib.hid hW6
        refine hK _ _ (fun _ => HF4.out) ?_
        clear hK hW4 hb24 hW03 hxr hr o5 c5 hv5 hr' hne h43 h45 hW6 h46 c56 cAll
        refine wpC_value (by rfl) (by rfl) (exec_append rfl HR.out) (fun h => absurd h (by decide)) ?_
        simp only [Act.put, List.setIfInBounds_toArray, List.set_cons_succ, List.set_cons_zero]
        clear f1 f2 f3 HF1 HFa HF3 HF4
        refine wpC_loud (by rfl) (by rfl) fun K hK => ?_
        go_wp2_with fail
        rw [← HW6.out]
        refine hK _ _ (fun h => absurd h (by decide)) ?_
        clear hK
        refine wpC_nil ?_
        exact HFin.out
  case done =>
    rintro D xs W hD hxs hI hK
    have hres : xs.map (fun x : { x // x ∈ Tl } => entOf w x.1) = ((E.filter fun e => !lessN e.1 (a, b)).takeWhile fun e => !lessN (c, d) e.1).take most.toNat := by
      have hT : Tl.map (entOf w) = xs.map fun x : { x // x ∈ Tl } => entOf w x.1 := by
        have := congrArg (List.map (entOf w)) hxs
        rw [← this]
        simp [Function.comp_def]
      rw [HEl.out, hT]
      have h1 := take_all (p := fun e : Ent => !lessN (c, d) e.1) (m := most) (xs.map (fun x : { x // x ∈ Tl } => entOf w x.1)) 0 (fun i hi => by
        have := hI.2.2.2.2 i (by simpa using hi)
        simp only [Nat.zero_add, List.getElem_map]
        exact this)
      rw [Nat.sub_zero] at h1
      exact h1.symm
    have HR := Lib.hid hres
    obtain ⟨i1, i2, i3, ⟨v, i4, i5⟩, i6⟩ := hI
    have l0 := cell_in i4 (i := 0) rfl
    have HI := Lib.hid (And.intro i1 (And.intro i2 i5))
    clear i1 i2 i3 i4 i5 i6 hres hxs
    go_wp2_with fail
    refine ⟨by simp, .inl ⟨_, _, rfl, run_takeDeferred hK, ?_⟩⟩
    refine ⟨_, results_tmp rfl _ _ _, ?_⟩
    obtain ⟨i1, i2, i5⟩ := HI.out
    have hg := grownBy_putObj' W D (.deferred none)
    have hr : ∀ r, some D = some r → ∃ o : Obj, W.heap[r]? = some o ∧ o.isCells = false := fun r e => by cases e; exact ⟨_, hK, rfl⟩
    refine ⟨_, rfl, ?_, grown_below i1 hg (fun r e => by cases e; have := HS3.out; omega) (Nat.le_refl _) (by omega)⟩
    rw [← HR.out]
    exact (i5.grown hg hr).mono (by omega)
end Go.Proofs.YtbjpfnafhhbmaaaDoor.Sad

/- a stream as an object with its blocks: E its entries, l its last identifier. -/
namespace Go.Proofs.YtbjpfnafhhbmaaaDoor.Sad
open Go.Proofs.YtbjpfnafhhbmaaaDoor
set_option linter.unusedVariables false
set_option linter.unusedSimpArgs false
open Go.RowKit RT Go.Shelf
structure StmO (w : World) (s p : Nat) (G R : Nat → Prop) (T : Option RT) (E : List Ent) (l : Nat × Nat) : Prop where
  core : StmF w s p G T E.length l.1 l.2
  rows : Rows2 w R (toldL T (idBytes 0 0)) E
  apart : ∀ b, R b → ¬ G b ∧ b ≠ s
  rlt : ∀ b, R b → b < w.heap.size
  top : ∀ e ∈ E, lessN l e.1 = false
/-- Stream s, in blocks of F. -/
def Stm (w : World) (s : Nat) (F : Nat → Prop) (E : List Ent) (l : Nat × Nat) : Prop :=
  ∃ p G R T, StmO w s p G R T E l ∧ ∀ k, F k ↔ k = s ∨ G k ∨ R k
section
variable {w w' : World} {s p : Nat} {G R F : Nat → Prop} {T : Option RT} {E : List Ent} {l : Nat × Nat}
theorem StmF.chg {n ms q : Nat} (h : StmF w s p G T n ms q) {S : Nat → Prop} (hc : Chg S w w') (hs : ¬ S s) (hG : ∀ k, G k → ¬ S k) : StmF w' s p G T n ms q :=
  ⟨hc.keep h.head hs, h.tree.chg hc hG, h.own, h.ms_lt, h.q_lt⟩
theorem Stm.lt (h : Stm w s F E l) : ∀ k, F k → k < w.heap.size := by
  obtain ⟨p, G, R, T, h, hF⟩ := h
  intro k hk
  rcases (hF k).1 hk with rfl | hk | hk
  · exact heap_lt h.core.head
  · exact h.core.tree.1 k hk
  · exact h.rlt k hk
theorem Stm.chg (h : Stm w s F E l) {S : Nat → Prop} (hc : Chg S w w') (hs : ∀ k, F k → ¬ S k) : Stm w' s F E l := by
  obtain ⟨p, G, R, T, h, hF⟩ := h
  exact ⟨p, G, R, T, ⟨StmF.chg h.core hc (hs s ((hF s).2 (.inl rfl))) fun k hk => hs k ((hF k).2 (.inr (.inl hk))), Rows2.chg hc (fun b hb => hs b ((hF b).2 (.inr (.inr hb)))) h.rows, h.apart, fun b hb => Nat.lt_of_lt_of_le (h.rlt b hb) hc.size, h.top⟩, hF⟩
theorem Stm.below (h : Stm w s F E l) (hb : Below w.heap.size w w') : Stm w' s F E l := h.chg (Chg.of_below (fun _ => False) hb) fun _ _ => id
theorem StmO.ids (h : StmO w s p G R T E l) : (toldL T (idBytes 0 0)).map idT2 = E.map (·.1) := by
  have := h.rows.ents
  conv => rhs; rw [this]
  rw [List.map_map]
  rfl
theorem Stm.rise (h : Stm w s F E l) : E.Pairwise fun x y => lessN x.1 y.1 = true := by
  obtain ⟨p, G, R, T, h, hF⟩ := h
  have h1 := told_rise h.core.tree.wf (idBytes 0 0)
  have h2 : ((toldL T (idBytes 0 0)).map idT2).Pairwise fun x y => lessN x y = true := by rw [List.pairwise_map]; exact h1
  rw [h.ids, List.pairwise_map] at h2
  exact h2
theorem Stm.lt64 (h : Stm w s F E l) : (l.1 < 18446744073709551616 ∧ l.2 < 18446744073709551616) ∧ ∀ e ∈ E, e.1.1 < 18446744073709551616 ∧ e.1.2 < 18446744073709551616 := by
  obtain ⟨p, G, R, T, h, hF⟩ := h
  refine ⟨⟨h.core.ms_lt, h.core.q_lt⟩, fun e he => ?_⟩
  have h1 : e.1 ∈ E.map (·.1) := List.mem_map_of_mem he
  rw [← h.ids] at h1
  obtain ⟨x, hx, hxe⟩ := List.mem_map.1 h1
  have := ((mem_all h.core.tree.wf x).1 hx).1
  rw [← hxe]
  exact this
theorem Stm.top (h : Stm w s F E l) : ∀ e ∈ E, lessN l e.1 = false := by
  obtain ⟨p, G, R, T, h, hF⟩ := h
  exact h.top
theorem StmO.nodes (h : StmO w s p G R T E l) (hn : E.length ≤ 400000) : nodesO T ≤ 1000000 := by
  have h1 := (nodesO_le h.core.tree.wf).1
  have h2 := h.rows.length
  have h3 : (toldL T (idBytes 0 0)).length = (itemsO T).length := by
    unfold toldL
    rw [List.length_map]
    unfold fromL
    rw [List.filter_eq_self.2]
    rintro ⟨k, v⟩ hk
    have := less_ids ((mem_itemsO h.core.tree.wf k v).1 hk).1 (idBytes_length 0 0)
    rw [idOf_id (by omega) (by omega)] at this
    have e : lessN (idOf k) (0, 0) = false := by simp [lessN]
    rw [e] at this
    simpa using this.symm
  omega
end
theorem stm_new (w : World) : Calls Tryd.prog 18 #[] w fun e w' => ∃ s F, e = .returned (ptrV s) ∧ Stm w' s F [] (0, 0) ∧ Below w.heap.size w w' ∧ ∀ k, F k → w.heap.size ≤ k := by
  refine (stmNew w).mono ?_
  rintro e w' ⟨s, p, G, rfl, h1, h2, h3, h4⟩
  refine ⟨s, fun k => k = s ∨ G k ∨ False, rfl, ⟨p, G, fun _ => False, none, ⟨h1, trivial, fun b h => h.elim, fun b h => h.elim, by simp⟩, fun k => Iff.rfl⟩, h2, ?_⟩
  rintro k (rfl | hk | hk)
  · exact h3
  · exact h4 k hk
  · exact hk.elim
theorem stm_len {w : World} {s : Nat} {F : Nat → Prop} {E : List Ent} {l : Nat × Nat} (h : Stm w s F E l) : Calls Tryd.prog 22 #[ptrV s] w fun e w' => e = .returned (.int .i64 E.length) ∧ w' = w := by
  obtain ⟨p, G, R, T, h, hF⟩ := h
  exact stmLen h.core
theorem stm_last {w : World} {s : Nat} {F : Nat → Prop} {E : List Ent} {l : Nat × Nat} (h : Stm w s F E l) : Calls Tryd.prog 24 #[ptrV s] w fun e w' => e = .returned (.agg #[.int .u64 l.1, .int .u64 l.2]) ∧ Below w.heap.size w w' := by
  obtain ⟨p, G, R, T, h, hF⟩ := h
  exact stmLast h.core
theorem stm_next {w : World} {s : Nat} {F : Nat → Prop} {E : List Ent} {l : Nat × Nat} (h : Stm w s F E l) {now : Int} (hlo : -9223372036854775808 ≤ now) (hhi : now ≤ 9223372036854775807) :
    Calls Tryd.prog 23 #[ptrV s, .int .i64 now] w fun e w' => e = .returned (.tuple #[.agg #[.int .u64 (nextN l.1 l.2 now).1.1, .int .u64 (nextN l.1 l.2 now).1.2], .bool (nextN l.1 l.2 now).2]) ∧ Below w.heap.size w w' := by
  obtain ⟨p, G, R, T, h, hF⟩ := h
  exact stmNext h.core hlo hhi
theorem stm_range {w : World} {s : Nat} {F : Nat → Prop} {E : List Ent} {l : Nat × Nat} (h : Stm w s F E l) (hn : E.length ≤ 400000) {a b c d : Nat} (ha : a < 18446744073709551616) (hb : b < 18446744073709551616) {most : Int} :
    Calls Tryd.prog 15 #[ptrV s, .agg #[.int .u64 a, .int .u64 b], .agg #[.int .u64 c, .int .u64 d], .int .i64 most] w fun e w' => ∃ v, e = .returned v ∧ EntsOut w' w.heap.size v (((E.filter fun e => !lessN e.1 (a, b)).takeWhile fun e => !lessN (c, d) e.1).take most.toNat) ∧ Below w.heap.size w w' := by
  obtain ⟨p, G, R, T, h, hF⟩ := h
  exact stmRange h.core h.rows (h.nodes hn) ha hb
/-- The entries' cost. -/
def costE (E : List Ent) : Nat := (E.map fun e => 32 + pairsCost e.2).foldl (· + ·) 0
theorem stm_charge {w : World} {s : Nat} {F : Nat → Prop} {E : List Ent} {l : Nat × Nat} (h : Stm w s F E l) (hn : E.length ≤ 400000) {M : Nat} (hM : ∀ e ∈ E, 32 + pairsCost e.2 ≤ M) (hc : E.length * M ≤ 281474976710656) :
    Calls Tryd.prog 31 #[ptrV s] w fun e w' => e = .returned (.int .i64 (costE E : Nat)) ∧ Below w.heap.size w w' := by
  obtain ⟨p, G, R, T, h, hF⟩ := h
  have he := h.rows.ents
  have hcost : costOf (rowOf w) (toldL T (idBytes 0 0)) = costE E := by
    unfold costE costOf
    conv => rhs; rw [he]
    rw [List.map_map]
    rfl
  rw [← hcost]
  refine stmCharge h.core (R := rowOf w) (M := M) (fun x hx => ?_) (fun x hx => ?_) (by rw [h.rows.length]; exact hc) (h.nodes hn)
  · obtain ⟨e, _, hr⟩ := h.rows.mem x hx
    rw [rowOf_eq hr.2.1]
    exact ⟨hr.2.1, by have := hr.2.2.1.2; omega⟩
  · obtain ⟨e, hee, hr⟩ := h.rows.mem x hx
    rw [rowOf_eq hr.2.1]
    exact hM e hee
theorem stm_add_bad {w : World} {s : Nat} {F : Nat → Prop} {E : List Ent} {l : Nat × Nat} (h : Stm w s F E l) {a : Option Addr} {k c : Nat} {L : List PairT} (hp : PairRow w a k c L) (hk : k ≤ 281474976710656) (im iq : Nat)
    (hbad : k = 0 ∨ L.any longP = true ∨ lessN l (im, iq) = false) :
    Calls Tryd.prog 25 #[ptrV s, .agg #[.int .u64 im, .int .u64 iq, .slice a k c]] w fun e w' => e = .returned (.int .i64 1) ∧ Below w.heap.size w w' := by
  obtain ⟨p, G, R, T, h, hF⟩ := h
  exact addBad h.core hp hk im iq hbad
theorem stm_add {w : World} {s : Nat} {F : Nat → Prop} {E : List Ent} {l : Nat × Nat} (h : Stm w s F E l) {a : Option Addr} {k c : Nat} {L : List PairT} (hp : PairRow w a k c L) (hk : k ≤ 4000000000000) {im iq : Nat} (him : im < 18446744073709551616) (hiq : iq < 18446744073709551616)
    (hk0 : 0 < k) (hx : L.any longP = false) (hy : lessN l (im, iq) = true) (hn : E.length < 1048576) :
    Calls Tryd.prog 25 #[ptrV s, .agg #[.int .u64 im, .int .u64 iq, .slice a k c]] w fun e w' => e = .returned (.int .i64 0) ∧ ∃ F', Stm w' s F' (E ++ [((im, iq), L)]) (im, iq) ∧ Fresh w F F' ∧ Chg F w w' := by
  obtain ⟨p, G, R, T, h, hF⟩ := h
  refine (addGood h.core hp hk him hiq hk0 hx hy hn).mono ?_
  rintro e w' ⟨rfl, G', b, c', h1, h2, h3, h4, h5, h6⟩
  have hwf := h.core.tree.wf
  have hlt : ∀ x ∈ toldL T (idBytes 0 0), lessN (idT2 x) (im, iq) = true := fun x hx => by
    have h1 : idT2 x ∈ E.map (·.1) := by rw [← h.ids]; exact List.mem_map_of_mem hx
    obtain ⟨e, he, hee⟩ := List.mem_map.1 h1
    have := h.top e he
    rw [← hee]
    rcases less_total this with h' | h'
    · exact less_trans h' hy
    · rw [← h']; exact hy
  have hno : (lookO T (idBytes im iq)).isNone = true := by
    have := look_some hwf him hiq
    rw [List.any_eq_false.2] at this
    · cases hl : lookO T (idBytes im iq) with
      | none => rfl
      | some v => rw [hl] at this; cases this
    · intro x hx
      simp only [decide_eq_true_eq]
      intro e
      have := hlt x hx
      rw [e, less_irrefl] at this
      cases this
  rw [if_pos hno] at h1
  have hb : b < w'.heap.size := by
    obtain ⟨b', o', e, hlt', _⟩ := h2.cells (i := 0) hk0
    cases e; exact hlt'
  have hslt := heap_lt h.core.head
  refine ⟨rfl, fun j => j = s ∨ G' j ∨ R j ∨ j = b, ⟨p, G', fun j => R j ∨ j = b, _, ⟨by rw [List.length_append]; exact h1, ?_, ?_, ?_, ?_⟩, fun k => Iff.rfl⟩, ?_, h6.mono fun j hj _ => (hF j).2 (by rcases hj with h | h; exact .inr (.inl h); exact .inl h)⟩
  · rw [told_put hwf him hiq _ hlt]
    refine Rows2.append ?_ ⟨⟨rfl, h2, ⟨hk0, hk⟩, b, rfl, .inr rfl⟩, trivial⟩
    exact Rows2.imp (fun j _ hj => .inl hj) (Rows2.chg h6 (fun j hj hS => by rcases hS with hS | hS; exact (h.apart j hj).1 hS; exact (h.apart j hj).2 hS) h.rows)
  · rintro j (hj | rfl)
    · refine ⟨fun hg => ?_, (h.apart j hj).2⟩
      rcases h5 j hg with h' | h'
      · exact (h.apart j hj).1 h'
      · have := h.rlt j hj; omega
    · exact ⟨h4, by omega⟩
  · rintro j (hj | rfl)
    · exact Nat.lt_of_lt_of_le (h.rlt j hj) h6.size
    · exact hb
  · intro e he
    rcases List.mem_append.1 he with he | he
    · have := h.top e he
      rcases less_total this with h' | h'
      · exact less_asymm (less_trans h' hy)
      · rw [← h']; exact less_asymm hy
    · rw [List.mem_singleton.1 he]; exact less_irrefl _
  · rintro j (rfl | hj | hj | rfl)
    · exact .inl ((hF _).2 (.inl rfl))
    · exact (h5 j hj).imp (fun h => (hF _).2 (.inr (.inl h))) id
    · exact .inl ((hF _).2 (.inr (.inr hj)))
    · exact .inr h3
theorem StmO.any {w : World} {s p : Nat} {G R : Nat → Prop} {T : Option RT} {E : List Ent} {l : Nat × Nat} (h : StmO w s p G R T E l) {a b : Nat} (ha : a < 18446744073709551616) (hb : b < 18446744073709551616) : (lookO T (idBytes a b)).isSome = E.any fun e => decide (e.1 = (a, b)) := by
  rw [look_some h.core.tree.wf ha hb]
  have h1 : ((toldL T (idBytes 0 0)).map idT2).any (fun y => decide (y = (a, b))) = (E.map (·.1)).any (fun y => decide (y = (a, b))) := by rw [h.ids]
  rw [List.any_map, List.any_map] at h1
  exact h1
theorem StmO.pos {w : World} {s p : Nat} {G R : Nat → Prop} {T : Option RT} {E : List Ent} {l : Nat × Nat} (h : StmO w s p G R T E l) {a b : Nat} (ha : a < 18446744073709551616) (hb : b < 18446744073709551616) (hl : lookO T (idBytes a b) ≠ none) : 0 < E.length := by
  have h1 : (lookO T (idBytes a b)).isSome = true := by cases hh : lookO T (idBytes a b) with | none => exact absurd hh hl | some v => rfl
  rw [h.any ha hb] at h1
  cases E with
  | nil => simp at h1
  | cons x l => simp
theorem StmO.del {w w' : World} {s p : Nat} {G G' R : Nat → Prop} {T : Option RT} {E : List Ent} {l : Nat × Nat} (h : StmO w s p G R T E l) {a b : Nat} (ha : a < 18446744073709551616) (hb : b < 18446744073709551616)
    (h1 : StmF w' s p G' (if (lookO T (idBytes a b)).isSome then delO T (idBytes a b) else T) (if (lookO T (idBytes a b)).isSome then E.length - 1 else E.length) l.1 l.2) (h2 : Fresh w G G') (h3 : Chg G w w') :
    StmO w' s p G' R (if (lookO T (idBytes a b)).isSome then delO T (idBytes a b) else T) (E.filter fun e => !decide (e.1 = (a, b))) l := by
  have hwf := h.core.tree.wf
  have hany := h.any ha hb
  rw [hany] at h1 ⊢
  refine ⟨?_, ?_, ?_, fun j hj => Nat.lt_of_lt_of_le (h.rlt j hj) h3.size, fun e he => h.top e (List.mem_filter.1 he).1⟩
  · have hlen : (E.filter fun e => !decide (e.1 = (a, b))).length = if (E.any fun e => decide (e.1 = (a, b))) then E.length - 1 else E.length := by
      by_cases hh : (E.any fun e => decide (e.1 = (a, b))) = true
      · rw [if_pos hh]
        have hne : lookO T (idBytes a b) ≠ none := fun e => by rw [← hany, e] at hh; cases hh
        have k1 := h1.tree
        rw [if_pos hh] at k1
        have k2 := told_del hwf ha hb hne
        have k3 := (Rows2.filter (p := fun e => !decide (e.1 = (a, b))) h.rows).length
        have k4 := len_delO hwf (idBytes_length a b) hne
        have k5 : ∀ V : Option RT, WFO V → (toldL V (idBytes 0 0)).length = (itemsO V).length := fun V hV => by
          unfold toldL
          rw [List.length_map]
          unfold fromL
          rw [List.filter_eq_self.2]
          rintro ⟨k, v⟩ hk
          have := less_ids ((mem_itemsO hV k v).1 hk).1 (idBytes_length 0 0)
          rw [idOf_id (by omega) (by omega)] at this
          have e : lessN (idOf k) (0, 0) = false := by simp [lessN]
          rw [e] at this
          simpa using this.symm
        have k6 := k5 T hwf
        have k7 := k5 _ (hwf.delO (idBytes_length a b) hne)
        have k8 := h.rows.length
        rw [k2] at k7
        have k9 : ((toldL T (idBytes 0 0)).filter fun x => !decide (idT2 x = (a, b))).length = (E.filter fun e => !decide (e.1 = (a, b))).length := k3
        omega
      · rw [if_neg hh, List.filter_eq_self.2]
        intro e he
        have hh' : (E.any fun e => decide (e.1 = (a, b))) = false := Bool.eq_false_iff.2 hh
        have := List.any_eq_false.1 hh' e he
        simpa using this
    rw [hlen]
    exact h1
  · have hr : Rows2 w' R (toldL T (idBytes 0 0)) E := Rows2.chg h3 (fun j hj hS => (h.apart j hj).1 hS) h.rows
    by_cases hh : (E.any fun e => decide (e.1 = (a, b))) = true
    · rw [if_pos hh]
      have hne : lookO T (idBytes a b) ≠ none := fun e => by rw [← hany, e] at hh; cases hh
      rw [told_del hwf ha hb hne]
      exact Rows2.filter (p := fun e => !decide (e.1 = (a, b))) hr
    · rw [if_neg hh, List.filter_eq_self.2]
      · exact hr
      · intro e he
        have hh' : (E.any fun e => decide (e.1 = (a, b))) = false := Bool.eq_false_iff.2 hh
        have := List.any_eq_false.1 hh' e he
        simpa using this
  · intro j hj
    refine ⟨fun hg => ?_, (h.apart j hj).2⟩
    rcases h2 j hg with h' | h'
    · exact (h.apart j hj).1 h'
    · have := h.rlt j hj; omega
theorem stm_del {w : World} {s : Nat} {F : Nat → Prop} {E : List Ent} {l : Nat × Nat} (h : Stm w s F E l) (hn : E.length ≤ 400000) {a b : Nat} (ha : a < 18446744073709551616) (hb : b < 18446744073709551616) :
    Calls Tryd.prog 32 #[ptrV s, .agg #[.int .u64 a, .int .u64 b]] w fun e w' => e = .returned (.bool (E.any fun e => decide (e.1 = (a, b)))) ∧ ∃ F', Stm w' s F' (E.filter fun e => !decide (e.1 = (a, b))) l ∧ Fresh w F F' ∧ Chg F w w' := by
  obtain ⟨p, G, R, T, h, hF⟩ := h
  refine (stmDelete h.core ha hb (by omega) (h.pos ha hb)).mono ?_
  rintro e w' ⟨rfl, G', h1, h2, h3⟩
  refine ⟨by rw [h.any ha hb], fun j => j = s ∨ G' j ∨ R j, ⟨p, G', R, _, h.del ha hb h1 h2 h3, fun k => Iff.rfl⟩, ?_, h3.mono fun j hj _ => (hF j).2 (.inr (.inl hj))⟩
  · rintro j (rfl | hj | hj)
    · exact .inl ((hF _).2 (.inl rfl))
    · exact (h2 j hj).imp (fun h => (hF _).2 (.inr (.inl h))) id
    · exact .inl ((hF _).2 (.inr (.inr hj)))
/-- The tree's own Delete. -/
theorem tree_del {w : World} {s p : Nat} {G R : Nat → Prop} {T : Option RT} {E : List Ent} {l : Nat × Nat} (h : StmO w s p G R T E l) (hn : E.length ≤ 400000) {a b : Nat} (ha : a < 18446744073709551616) (hb : b < 18446744073709551616) :
    Calls Tryd.prog 59 #[ptrV p, .agg #[.int .u64 a, .int .u64 b]] w fun e w' => e = .returned (.bool (E.any fun e => decide (e.1 = (a, b)))) ∧ ∃ G' T', StmO w' s p G' R T' (E.filter fun e => !decide (e.1 = (a, b))) l ∧ Fresh w G G' ∧ Chg G w w' := by
  refine (radDelete h.core.tree ha hb (by omega) (h.pos ha hb)).mono ?_
  rintro e w' ⟨rfl, G', h1, h2, h3⟩
  refine ⟨by rw [h.any ha hb], G', _, h.del ha hb ⟨h3.keep h.core.head h.core.own, h1, fun hg => ?_, h.core.ms_lt, h.core.q_lt⟩ h2 h3, h2, h3⟩
  rcases h2 s hg with h' | h'
  · exact h.core.own h'
  · have := heap_lt h.core.head; omega
theorem stm_setLast {w : World} {s : Nat} {F : Nat → Prop} {E : List Ent} {l : Nat × Nat} (h : Stm w s F E l) {a b : Nat} (ha : a < 18446744073709551616) (hb : b < 18446744073709551616) :
    Calls Tryd.prog 33 #[ptrV s, .agg #[.int .u64 a, .int .u64 b]] w fun e w' =>
      e = .returned (.int .i64 (if lessN (a, b) l then 1 else 0)) ∧ Stm w' s F E (if lessN (a, b) l then l else (a, b)) ∧ Chg F w w' := by
  have h0 := h
  obtain ⟨p, G, R, T, h, hF⟩ := h
  refine (stmSetLast h.core ha hb).mono ?_
  rintro e w' (⟨h1, rfl, h2⟩ | ⟨h1, rfl, h2, h3⟩)
  · rw [if_pos h1, if_pos h1]
    exact ⟨rfl, h0.below h2, Chg.of_below _ h2⟩
  · rw [if_neg (by rw [show lessN (a, b) l = false from h1]; simp), if_neg (by rw [show lessN (a, b) l = false from h1]; simp)]
    refine ⟨rfl, ⟨p, G, R, T, ⟨h2, Rows2.chg h3 (fun j hj e => (h.apart j hj).2 e) h.rows, h.apart, fun j hj => Nat.lt_of_lt_of_le (h.rlt j hj) h3.size, fun e he => ?_⟩, hF⟩, h3.mono fun j hj _ => (hF j).2 (.inl hj)⟩
    have h4 : lessN (a, b) l = false := h1
    have := h.top e he
    rcases less_total this with h' | h'
    · rcases less_total h4 with h5 | h5
      · exact less_asymm (less_trans h' h5)
      · rw [h5]; exact less_asymm h'
    · rw [← h']; exact h4
end Go.Proofs.YtbjpfnafhhbmaaaDoor.Sad

/- SamePairs, SameEntry, SameEntries. -/
namespace Go.Proofs.YtbjpfnafhhbmaaaDoor.Sad
open Go.Proofs.YtbjpfnafhhbmaaaDoor
set_option linter.unusedVariables false
set_option linter.unusedSimpArgs false
open Go.RowKit RT Go.Shelf
theorem pair_struct : Tryd.prog.underlying 59 = some (.struct (Tryd.prog.fieldsOf 59)) := by kernel_rfl
@[go_sem] theorem eq_pair (a b c d : ByteArray) (w : World) : (Op.equalIn 10000 59 (.agg #[.string a, .string b]) (.agg #[.string c, .string d])).run Tryd.prog w = .ok (a.toList == c.toList && b.toList == d.toList) w := by
  rw [show (10000 : Nat) = 9999 + 1 from rfl, run_equalIn_struct w _ _ _ _ pair_struct (by kernel_rfl)]
  have u1 : Tryd.prog.underlying 9 = some .string := Tryd.underlying9
  simp only [Program.fieldsOf, Tryd.underlying59]
  simp [Op.eqFields, part, go_sem, u1]
  cases h1 : (a.toList == c.toList) <;> cases h2 : (b.toList == d.toList) <;> simp_all
@[go_sem] theorem guard_pair (op : BinOp) (w : World) (x y : Operand) (xs ys : Array Value) : (eqGuard op 59 x y (.agg xs) (.agg ys)).run Tryd.prog w = .ok () w := run_eqGuard_agg w op _ x y xs ys (by kernel_rfl)
/-- It answers whether P. -/
def SaysB (P : Prop) (w : World) (e : Ending) (w' : World) : Prop := ∃ r : Bool, e = .returned (.bool r) ∧ (r = true ↔ P) ∧ Below w.heap.size w w'
theorem bytes_beq (a c : ByteArray) : (a.toList == c.toList) = decide (a = c) := by
  rw [Bool.eq_iff_iff, beq_iff_eq, decide_eq_true_eq, ByteArray.toList_eq, ByteArray.toList_eq]
  exact ⟨fun h => ByteArray.ext (Array.toList_inj.1 h), fun h => by rw [h]⟩
theorem take_eq_succ {L M : List PairT} {k : Nat} (h1 : k < L.length) (h2 : k < M.length) : (L.take (k + 1) = M.take (k + 1)) ↔ (L.take k = M.take k ∧ L.getD k e0 = M.getD k e0) := by
  rw [List.take_succ_eq_append_getElem h1, List.take_succ_eq_append_getElem h2]
  have g1 : L.getD k e0 = L[k] := by simp [List.getD, h1]
  have g2 : M.getD k e0 = M[k] := by simp [List.getD, h2]
  rw [g1, g2]
  constructor
  · intro h
    have := List.append_inj' h rfl
    exact ⟨this.1, by simpa using this.2⟩
  · rintro ⟨h, h'⟩; rw [h, h']
set_option maxHeartbeats 3200000 in
set_option maxRecDepth 100000 in
theorem samePairs {w : World} {a a' : Option Addr} {n n' c c' : Nat} {L M : List PairT} (h : PairRow w a n c L) (h' : PairRow w a' n' c' M) (hn : n ≤ 4000000000000) :
    Calls Tryd.prog 64 #[.slice a n c, .slice a' n' c'] w (SaysB (L = M) w) := by
  have HR := Lib.hid (And.intro h h')
  have hl : L.length = n := h.1
  have hl' : M.length = n' := h'.1
  by_cases hnn : n = n'
  · subst hnn
    have HL := Lib.hid (And.intro hl hl')
    clear h h' hl hl'
    have e1 : ((n : Int) == (n : Int)) = true := by simp
    go_enter Tryd.func64, Tryd.ntmps64
    go_wp2_with fail
    go_loopw [5] (fun i wr => ∃ k : Nat, k ≤ n ∧ i = .int .i64 k ∧ Hid (L.take k = M.take k ∧ Below w.heap.size w wr)) (fun i _ => n - (intOf i).toNat)
    case atStart => exact ⟨0, Nat.zero_le _, rfl, Lib.hid ⟨by simp, Below.refl _ _⟩⟩
    case round =>
      obtain ⟨k, hk, rfl, hI⟩ := hrel
      by_cases hlt : k < n
      · have hC := fun w' (hb : Below w.heap.size w w') => And.intro (((HR.out.1.below hb)).cells hlt) ((HR.out.2.below hb).cells hlt)
        obtain ⟨⟨b, o, rfl, _⟩, ⟨b', o', rfl, _⟩⟩ := hC wr hI.out.2
        obtain ⟨f, hf⟩ : ∃ f, L.getD k e0 = f := ⟨_, rfl⟩
        obtain ⟨g, hg⟩ : ∃ g, M.getD k e0 = g := ⟨_, rfl⟩
        have hC2 : ∀ w', Below w.heap.size w w' → (w'.cell? ⟨b, o + k * 2, none⟩ = some (.string f.1) ∧ w'.cell? ⟨b, o + k * 2 + 1, none⟩ = some (.string f.2)) ∧ w'.cell? ⟨b', o' + k * 2, none⟩ = some (.string g.1) ∧ w'.cell? ⟨b', o' + k * 2 + 1, none⟩ = some (.string g.2) := fun w' hb => by
          obtain ⟨⟨b1, o1, e1, _, d0, d1⟩, ⟨b2, o2, e2, _, d2, d3⟩⟩ := hC w' hb
          cases e1
          cases e2
          rw [hf] at d0 d1
          rw [hg] at d2 d3
          exact ⟨⟨d0, d1⟩, d2, d3⟩
        have hs := take_eq_succ (k := k) (L := L) (M := M) (by rw [HL.out.1]; exact hlt) (by rw [HL.out.2]; exact hlt)
        rw [hf, hg] at hs
        obtain ⟨f1, f2⟩ := f
        obtain ⟨g1, g2⟩ := g
        have c0 := hC2 wr.drew (belowN hI.out.2 1)
        obtain ⟨X1, fw, hX1, hfw, hF⟩ := classOf (fun w' => (w'.cell? ⟨b, o + k * 2, none⟩ = some (.string f1) ∧ w'.cell? ⟨b, o + k * 2 + 1, none⟩ = some (.string f2)) ∧ w'.cell? ⟨b', o' + k * 2, none⟩ = some (.string g1) ∧ w'.cell? ⟨b', o' + k * 2 + 1, none⟩ = some (.string g2)) (w := wr.drew) c0
        have k1 := fun x => (hfw x).1.1
        have k2 := fun x => (hfw x).1.2
        have k3 := fun x => (hfw x).2.1
        have k4 := fun x => (hfw x).2.2
        have HFa := Lib.hid (hF wr.drew c0)
        have HS := Lib.hid hs
        have hbd1 : k < n := hlt
        clear hF hfw c0 hC hC2 hf hg hs
        obtain ⟨t1, ht1⟩ : ∃ t1, (f1.toList == g1.toList) = t1 := ⟨_, rfl⟩
        obtain ⟨t2, ht2⟩ : ∃ t2, (f2.toList == g2.toList) = t2 := ⟨_, rfl⟩
        have HT := Lib.hid (show (t1 && t2) = true ↔ (f1, f2) = (g1, g2) by rw [← ht1, ← ht2, bytes_beq, bytes_beq]; simp)
        cases t1 <;> cases t2
        all_goals
          go_upto_region 6 with (fail)
          refine wp_region_text ⟨[], [], 9⟩ (fun w' => ∃ x : X1, w' = fw x) (by kernel_rfl) (by kernel_rfl) HFa.out ?_
          refine wpC_seg false (HFa.out) 9 0 _ _ (by rfl) (by rfl) ?_
          simp only [List.take_succ_cons, List.take_zero, List.drop_succ_cons, List.drop_zero, Bool.false_eq_true, if_false, Nat.zero_add, Nat.reduceAdd]
          repeat (go_big_quiet_step (fail))
          refine wpQuiet_nil ?_
          refine wpC_nil ?_
          go_wp2_with fail
        all_goals first
          | exact bodyPost_ret (results_tmp rfl _ _ _) rfl ⟨false, rfl, ⟨fun h => (by cases h), fun h => absurd (HT.out.2 ((HS.out.1 (by rw [h])).2)) (by decide)⟩, belowN hI.out.2 1⟩
          | (go_roundw
             case rel => exact ⟨k + 1, by omega, by go_num, Lib.hid ⟨HS.out.2 ⟨hI.out.1, HT.out.1 rfl⟩, belowN hI.out.2 1⟩⟩
             case measure => simp [intOf]; omega)
      · obtain rfl : n = k := by omega
        go_wp2_with fail
        go_ret
        have h1 := hI.out.1
        rw [List.take_of_length_le (by rw [HL.out.1]; exact Nat.le_refl _), List.take_of_length_le (by rw [HL.out.2]; exact Nat.le_refl _)] at h1
        exact ⟨true, rfl, by simp [h1], hI.out.2⟩
  · have e1 : ((n : Int) == (n' : Int)) = false := by simp; omega
    have HL := Lib.hid (show L ≠ M from fun e => hnn (by rw [← hl, ← hl', e]))
    clear h h' hl hl' hnn
    go_enter Tryd.func64, Tryd.ntmps64
    go_wp2_with fail
    go_ret
    exact ⟨false, rfl, ⟨fun h => (by cases h), fun h => absurd h HL.out⟩, Below.refl _ _⟩
end Go.Proofs.YtbjpfnafhhbmaaaDoor.Sad

/- SameEntry, SameEntries: rows of entries in memory. -/
namespace Go.Proofs.YtbjpfnafhhbmaaaDoor.Sad
open Go.Proofs.YtbjpfnafhhbmaaaDoor
set_option linter.unusedVariables false
set_option linter.unusedSimpArgs false
open Go.RowKit RT Go.Shelf
theorem SaysB.mono {P Q : Prop} {w : World} {e : Ending} {w' : World} (h : SaysB P w e w') (hpq : P ↔ Q) : SaysB Q w e w' := by
  obtain ⟨r, h1, h2, h3⟩ := h
  exact ⟨r, h1, h2.trans hpq, h3⟩
set_option maxHeartbeats 3200000 in
set_option maxRecDepth 100000 in
theorem sameEntry {w : World} {x y : Told} {e f : Ent} (hx : PairRow w x.2.2.1 x.2.2.2.1 x.2.2.2.2 e.2) (hxi : idT2 x = e.1) (hxn : x.2.2.2.1 ≤ 4000000000000) (hy : PairRow w y.2.2.1 y.2.2.2.1 y.2.2.2.2 f.2) (hyi : idT2 y = f.1) :
    Calls Tryd.prog 39 #[.agg #[.int .u64 x.1, .int .u64 x.2.1, vC x.2.2], .agg #[.int .u64 y.1, .int .u64 y.2.1, vC y.2.2]] w (SaysB (e = f) w) := by
  obtain ⟨xm, xq, xa, xn, xc⟩ := x
  obtain ⟨ym, yq, ya, yn, yc⟩ := y
  dsimp only [idT2, vC] at *
  obtain ⟨w1, hw1⟩ : ∃ w1, w1 = (w.alloc (.cells #[.int .u64 xm, .int .u64 xq, .slice xa xn xc] 39)).alloc (.cells #[.int .u64 ym, .int .u64 yq, .slice ya yn yc] 39) := ⟨_, rfl⟩
  have hb1 : Below w.heap.size w w1 := by rw [hw1]; exact ((Below.refl _ _).alloc (Nat.le_refl _) _).alloc (by simp) _
  have k1 : w1.heap[w.heap.size]? = some (.cells #[.int .u64 xm, .int .u64 xq, .slice xa xn xc] 39 (0, 0)) := by rw [hw1]; exact heap_old (heap_new _ _) _
  have k2 : w1.heap[w.heap.size + 1]? = some (.cells #[.int .u64 ym, .int .u64 yq, .slice ya yn yc] 39 (0, 0)) := by
    rw [hw1]
    have := heap_new (w.alloc (.cells #[.int .u64 xm, .int .u64 xq, .slice xa xn xc] 39)) (.cells #[.int .u64 ym, .int .u64 yq, .slice ya yn yc] 39)
    rw [World.size_alloc] at this
    exact this
  have c0 := cell_in k1 (i := 0) rfl
  have c1 := cell_in k1 (i := 1) rfl
  have c2 := cell_in k1 (i := 2) rfl
  have d0 := cell_in k2 (i := 0) rfl
  have d1 := cell_in k2 (i := 1) rfl
  have d2 := cell_in k2 (i := 2) rfl
  have HS := Lib.hid (samePairs (hx.below hb1) (hy.below hb1) hxn)
  have HW := Lib.hid hw1
  have HB := Lib.hid hb1
  have HI := Lib.hid (And.intro hxi hyi)
  by_cases hid : xm = ym ∧ xq = yq
  · obtain ⟨rfl, rfl⟩ := hid
    clear hx hy hxi hyi hxn hw1 hb1 k1 k2
    go_enter Tryd.func39, Tryd.ntmps39
    go_wp2_with fail
    rw [← HW.out]
    refine HS.out.mono ?_
    rintro e' w2 ⟨r, rfl, hr, b2⟩
    have HR := Lib.hid (And.intro hr b2)
    clear hr b2
    go_wp2_with fail
    go_ret
    refine ⟨r, rfl, HR.out.1.trans ?_, HB.out.trans (HR.out.2.mono HB.out.size)⟩
    have h1 := HI.out
    rw [Prod.ext_iff, ← h1.1, ← h1.2]
    simp
  · rcases Decidable.em (xm = ym) with rfl | hne
    · have e1 : ((xq : Int) == (yq : Int)) = false := by rw [beq_eq_false_iff_ne]; omega
      have HD := Lib.hid hid
      clear hx hy hxi hyi hxn hw1 hb1 k1 k2 hid
      go_enter Tryd.func39, Tryd.ntmps39
      go_wp2_with fail
      rw [← HW.out]
      go_ret
      refine ⟨false, rfl, ⟨fun h => (by cases h), fun h => ?_⟩, HB.out⟩
      have h1 := HI.out
      have h2 := h1.1.trans ((congrArg Prod.fst h).trans h1.2.symm)
      simp only [Prod.mk.injEq] at h2
      exact absurd h2 HD.out
    · have e1 : ((xm : Int) == (ym : Int)) = false := by rw [beq_eq_false_iff_ne]; omega
      clear hne
      have HD := Lib.hid hid
      clear hx hy hxi hyi hxn hw1 hb1 k1 k2 hid
      go_enter Tryd.func39, Tryd.ntmps39
      go_wp2_with fail
      rw [← HW.out]
      go_ret
      refine ⟨false, rfl, ⟨fun h => (by cases h), fun h => ?_⟩, HB.out⟩
      have h1 := HI.out
      have h2 := h1.1.trans ((congrArg Prod.fst h).trans h1.2.symm)
      simp only [Prod.mk.injEq] at h2
      exact absurd h2 HD.out
/-- A row of entries that can be read. -/
def EntRow (w : World) (a : Option Addr) (n c : Nat) (E : List Ent) : Prop :=
  E.length = n ∧ n ≤ c ∧ (n = 0 ∨ ∃ b o, a = some ⟨b, o, none⟩ ∧ ∀ i (h : i < E.length), ∃ x : Told, (∀ j, j < 3 → w.cell? ⟨b, o + i * 3 + j, none⟩ = some ((entV x).getD j undef)) ∧ idT2 x = E[i].1 ∧ PairRow w x.2.2.1 x.2.2.2.1 x.2.2.2.2 E[i].2 ∧ x.2.2.2.1 ≤ 4000000000000)
theorem EntRow.get {w : World} {a : Option Addr} {n c : Nat} {E : List Ent} (h : EntRow w a n c E) {i : Nat} (hi : i < n) : ∃ b o x e, a = some ⟨b, o, none⟩ ∧ (w.cell? ⟨b, o + i * 3, none⟩ = some (.int .u64 x.1) ∧ w.cell? ⟨b, o + i * 3 + 1, none⟩ = some (.int .u64 x.2.1) ∧ w.cell? ⟨b, o + i * 3 + 1 + 1, none⟩ = some (vC x.2.2)) ∧ E[i]? = some e ∧ idT2 x = e.1 ∧ PairRow w x.2.2.1 x.2.2.2.1 x.2.2.2.2 e.2 ∧ x.2.2.2.1 ≤ 4000000000000 := by
  obtain ⟨h1, h2, h3⟩ := h
  obtain ⟨b, o, e, hc⟩ := h3.resolve_left (by omega)
  obtain ⟨x, hx, h4⟩ := hc i (by omega)
  exact ⟨b, o, x, E[i]'(by omega), e, ⟨hx 0 (by omega), hx 1 (by omega), hx 2 (by omega)⟩, List.getElem?_eq_getElem _, h4⟩
theorem EntRow.chg {w w' : World} {a : Option Addr} {n c : Nat} {E : List Ent} (h : EntRow w a n c E) (hb : Below w.heap.size w w') : EntRow w' a n c E := by
  refine ⟨h.1, h.2.1, h.2.2.imp id ?_⟩
  rintro ⟨b, o, e, hc⟩
  refine ⟨b, o, e, fun i hi => ?_⟩
  obtain ⟨x, hx, h1, h2, h3⟩ := hc i hi
  refine ⟨x, fun j hj => ?_, h1, h2.below hb, h3⟩
  rw [hb.cell (p := ⟨b, o + i * 3 + j, none⟩) (World.block_lt_of_cell? w _ (hx j hj))]
  exact hx j hj
theorem flatE : ∀ (A : List Told) (i : Nat) (h : i < A.length) (j : Nat), j < 3 → (A.flatMap entV).getD (i * 3 + j) undef = (entV A[i]).getD j undef
  | p :: A, 0, _, j, hj => by
    simp only [List.flatMap_cons, List.getD, Nat.zero_mul, Nat.zero_add, List.getElem_cons_zero]
    rw [List.getElem?_append_left (by simp [entV]; exact hj)]
  | p :: A, i + 1, h, j, hj => by
    have := flatE A i (by simpa using h) j hj
    simp only [List.flatMap_cons, List.getD, List.getElem_cons_succ] at this ⊢
    rw [List.getElem?_append_right (by simp [entV]; omega), show (i + 1) * 3 + j - (entV p).length = i * 3 + j by simp [entV]; omega]
    exact this
theorem EntsOut.row {w : World} {n₀ : Nat} {v : Value} {E : List Ent} (h : EntsOut w n₀ v E) : ∃ a c, v = .slice a E.length c ∧ EntRow w a E.length c E := by
  obtain ⟨a, c, hv, hc, _⟩ := h.form
  obtain ⟨Vs, h1, h2, h3⟩ := h
  have hl := h2.length
  refine ⟨a, c, hv, rfl, hc, ?_⟩
  rcases Nat.eq_zero_or_pos E.length with h0 | h0
  · exact .inl h0
  · obtain ⟨g, cap, cur, he, _⟩ := h1.2.resolve_left (by omega)
    rw [hv] at he
    simp only [Value.slice.injEq] at he
    obtain ⟨rfl, _, rfl⟩ := he
    refine .inr ⟨g, 0, rfl, fun i hi => ?_⟩
    have hr := h2.get i (by omega) hi
    refine ⟨Vs[i], fun j hj => ?_, hr.1, hr.2.1, hr.2.2.1.2⟩
    have := h1.cell (g := g) (i := i * 3 + j) hv (by omega)
    rw [Nat.zero_add, this, flatE Vs i (by omega) j hj]
theorem ent_take {E F : List Ent} {k : Nat} {e f : Ent} (h1 : E[k]? = some e) (h2 : F[k]? = some f) : (E.take (k + 1) = F.take (k + 1)) ↔ (E.take k = F.take k ∧ e = f) := by
  obtain ⟨hk, rfl⟩ := List.getElem?_eq_some_iff.1 h1
  obtain ⟨hk', rfl⟩ := List.getElem?_eq_some_iff.1 h2
  rw [List.take_succ_eq_append_getElem hk, List.take_succ_eq_append_getElem hk']
  constructor
  · intro h
    have := List.append_inj' h rfl
    exact ⟨this.1, by simpa using this.2⟩
  · rintro ⟨h, h'⟩; rw [h, h']
set_option maxHeartbeats 3200000 in
set_option maxRecDepth 100000 in
theorem sameEntries {w : World} {a a' : Option Addr} {n n' c c' : Nat} {E F : List Ent} (h : EntRow w a n c E) (h' : EntRow w a' n' c' F) (hn : n ≤ 4000000000000) :
    Calls Tryd.prog 17 #[.slice a n c, .slice a' n' c'] w (SaysB (E = F) w) := by
  have HR := Lib.hid (And.intro h h')
  have hl : E.length = n := h.1
  have hl' : F.length = n' := h'.1
  by_cases hnn : n = n'
  · subst hnn
    have HL := Lib.hid (And.intro hl hl')
    clear h h' hl hl'
    have e1 : ((n : Int) == (n : Int)) = true := by simp
    go_enter Tryd.func17, Tryd.ntmps17
    go_wp2_with fail
    go_loopw [5] (fun i wr => ∃ k : Nat, k ≤ n ∧ i = .int .i64 k ∧ Hid (E.take k = F.take k ∧ Below w.heap.size w wr)) (fun i _ => n - (intOf i).toNat)
    case atStart => exact ⟨0, Nat.zero_le _, rfl, Lib.hid ⟨by simp, Below.refl _ _⟩⟩
    case round =>
      obtain ⟨k, hk, rfl, hI⟩ := hrel
      by_cases hlt : k < n
      · obtain ⟨b, o, x, e, rfl, ⟨c0, c1, c2⟩, he, hxi, hxp, hxn⟩ := (HR.out.1.chg (belowN hI.out.2 1)).get hlt
        obtain ⟨b', o', y, f, rfl, ⟨d0, d1, d2⟩, hf, hyi, hyp, hyn⟩ := (HR.out.2.chg (belowN hI.out.2 1)).get hlt
        have HS := Lib.hid (ent_take he hf)
        have HC := Lib.hid (sameEntry hxp hxi hxn hyp hyi)
        obtain ⟨xm, xq, xa, xn, xc⟩ := x
        obtain ⟨ym, yq, ya, yn, yc⟩ := y
        dsimp only [vC] at c0 c1 c2 d0 d1 d2 HC
        obtain ⟨X1, fw, hX1, hfw, hF⟩ := classOf (fun w' => (w'.cell? ⟨b, o + k * 3, none⟩ = some (.int .u64 xm) ∧ w'.cell? ⟨b, o + k * 3 + 1, none⟩ = some (.int .u64 xq) ∧ w'.cell? ⟨b, o + k * 3 + 1 + 1, none⟩ = some (.slice xa xn xc)) ∧ w'.cell? ⟨b', o' + k * 3, none⟩ = some (.int .u64 ym) ∧ w'.cell? ⟨b', o' + k * 3 + 1, none⟩ = some (.int .u64 yq) ∧ w'.cell? ⟨b', o' + k * 3 + 1 + 1, none⟩ = some (.slice ya yn yc)) (w := wr.drew) ⟨⟨c0, c1, c2⟩, d0, d1, d2⟩
        have k1 := fun x => (hfw x).1.1
        have k2 := fun x => (hfw x).1.2.1
        have k3 := fun x => (hfw x).1.2.2
        have k4 := fun x => (hfw x).2.1
        have k5 := fun x => (hfw x).2.2.1
        have k6 := fun x => (hfw x).2.2.2
        have HFa := Lib.hid (hF wr.drew ⟨⟨c0, c1, c2⟩, d0, d1, d2⟩)
        clear hF hfw c0 c1 c2 d0 d1 d2 he hf hxi hxp hxn hyi hyp hyn
        go_upto_region 6 with (fail)
        refine wp_region_text ⟨[8], [9], 8⟩ (fun w' => ∃ x : X1, w' = fw x) (by kernel_rfl) (by kernel_rfl) HFa.out ?_
        refine wpC_seg false (HFa.out) 8 0 _ _ (by rfl) (by rfl) ?_
        simp only [List.take_succ_cons, List.take_zero, List.drop_succ_cons, List.drop_zero, Bool.false_eq_true, if_false, Nat.zero_add, Nat.reduceAdd]
        repeat (go_big_quiet_step (fail))
        refine wpQuiet_nil ?_
        refine wpC_loud (by rfl) (by rfl) fun K hK => ?_
        go_wp2_with fail
        refine HC.out.mono ?_
        rintro e' w2 ⟨r, rfl, hr, b2⟩
        have HR2 := Lib.hid (And.intro hr ((belowN hI.out.2 1).trans (b2.mono (belowN hI.out.2 1).size)))
        refine hK _ _ (fun h => absurd h (by decide)) ?_
        clear hK hr b2
        refine wpC_segD 1 9 _ _ (by rfl) (by rfl) ?_
        simp only [List.take_succ_cons, List.take_zero, List.drop_succ_cons, List.drop_zero, if_true, Nat.zero_add, Nat.reduceAdd]
        repeat (go_big_quiet_step (fail))
        refine wpQuiet_nil ?_
        refine wpC_nil ?_
        clear k1 k2 k3 k4 k5 k6 hX1 HFa fw
        cases r
        case' false =>
          go_wp2_with fail
          exact bodyPost_ret (results_tmp rfl _ _ _) rfl ⟨false, rfl, ⟨fun h => (by cases h), fun h => absurd (HR2.out.1.2 ((HS.out.1 (by rw [h])).2)) (by decide)⟩, HR2.out.2⟩
        case' true =>
          go_wp2_with fail
          go_roundw
          case rel => exact ⟨k + 1, by omega, by go_num, Lib.hid ⟨HS.out.2 ⟨hI.out.1, HR2.out.1.1 rfl⟩, HR2.out.2⟩⟩
          case measure => simp [intOf]; omega
      · obtain rfl : n = k := by omega
        go_wp2_with fail
        go_ret
        have h1 := hI.out.1
        rw [List.take_of_length_le (by rw [HL.out.1]; exact Nat.le_refl _), List.take_of_length_le (by rw [HL.out.2]; exact Nat.le_refl _)] at h1
        exact ⟨true, rfl, by simp [h1], hI.out.2⟩
  · have e1 : ((n : Int) == (n' : Int)) = false := by simp; omega
    have HL := Lib.hid (show E ≠ F from fun e => hnn (by rw [← hl, ← hl', e]))
    clear h h' hl hl' hnn
    go_enter Tryd.func17, Tryd.ntmps17
    go_wp2_with fail
    go_ret
    exact ⟨false, rfl, ⟨fun h => (by cases h), fun h => absurd h HL.out⟩, Below.refl _ _⟩
end Go.Proofs.YtbjpfnafhhbmaaaDoor.Sad

/- (*stream.Stream).Trim. -/
namespace Go.Proofs.YtbjpfnafhhbmaaaDoor.Sad
open Go.Proofs.YtbjpfnafhhbmaaaDoor
set_option linter.unusedVariables false
set_option linter.unusedSimpArgs false
open Go.RowKit RT Go.Shelf
theorem range_all {E : List Ent} {l : Nat × Nat} (h : ∀ e ∈ E, lessN l e.1 = false) : ((E.filter fun e => !lessN e.1 (0, 0)).takeWhile fun e => !lessN l e.1) = E := by
  rw [List.filter_eq_self.2 fun e _ => by simp [lessN]]
  induction E with
  | nil => rfl
  | cons x E ih =>
    rw [List.takeWhile_cons, if_pos (by rw [h x (by simp)]; rfl), ih fun e he => h e (by simp [he])]
theorem drop_filter {E : List Ent} (h : E.Pairwise fun x y => lessN x.1 y.1 = true) {k : Nat} (hk : k < E.length) : ((E.drop k).filter fun e => !decide (e.1 = E[k].1)) = E.drop (k + 1) := by
  rw [List.drop_eq_getElem_cons hk, List.filter_cons, if_neg (by simp), List.filter_eq_self.2]
  intro e he
  have h2 := (h.sublist (List.drop_sublist k E))
  rw [List.drop_eq_getElem_cons hk, List.pairwise_cons] at h2
  have := h2.1 e he
  simp only [Bool.not_eq_true', decide_eq_false_iff_not]
  intro e'
  rw [e', less_irrefl] at this
  cases this
theorem EntRow.blocks {w w' : World} {n₀ : Nat} {v : Value} {E : List Ent} (h : EntsOut w n₀ v E) {S : Nat → Prop} (hc : Chg S w w') (hs : ∀ k, S k → k < n₀) : EntsOut w' n₀ v E := h.chg hc fun b hb hS => by have := hs b hS; omega
theorem StmO.chg {w w' : World} {s p : Nat} {G R : Nat → Prop} {T : Option RT} {E : List Ent} {l : Nat × Nat} (h : StmO w s p G R T E l) {S : Nat → Prop} (hc : Chg S w w') (hs : ¬ S s) (hG : ∀ k, G k → ¬ S k) (hR : ∀ k, R k → ¬ S k) : StmO w' s p G R T E l :=
  ⟨StmF.chg h.core hc hs hG, Rows2.chg hc hR h.rows, h.apart, fun b hb => Nat.lt_of_lt_of_le (h.rlt b hb) hc.size, h.top⟩
theorem StmO.below {w w' : World} {s p : Nat} {G R : Nat → Prop} {T : Option RT} {E : List Ent} {l : Nat × Nat} (h : StmO w s p G R T E l) (hb : Below w.heap.size w w') : StmO w' s p G R T E l := h.chg (Chg.of_below (fun _ => False) hb) id (fun _ _ => id) fun _ _ => id
/-- How many go. -/
def trimN (n : Nat) (most : Int) : Nat := if most < 0 then 0 else n - most.toNat
set_option maxHeartbeats 3200000 in
set_option maxRecDepth 100000 in
theorem stmTrim {w : World} {s p : Nat} {G R : Nat → Prop} {T : Option RT} {E : List Ent} {l : Nat × Nat} (h : StmO w s p G R T E l) (hn : E.length ≤ 400000) (hrise : E.Pairwise fun x y => lessN x.1 y.1 = true) (h64 : ∀ e ∈ E, e.1.1 < 18446744073709551616 ∧ e.1.2 < 18446744073709551616) {most : Int} (hm1 : -9223372036854775808 ≤ most) (hm2 : most ≤ 9223372036854775807) :
    Calls Tryd.prog 34 #[ptrV s, .int .i64 most] w fun e w' => e = .returned (.int .i64 (trimN E.length most : Nat)) ∧ ∃ G' T', StmO w' s p G' R T' (E.drop (trimN E.length most)) l ∧ Fresh w G G' ∧ Chg G w w' := by
  obtain ⟨N, hN⟩ : ∃ N, E.length = N := ⟨_, rfl⟩
  have HLen := Lib.hid (stmLen h.core)
  rw [hN] at HLen
  have H0 := Lib.hid h
  unfold ptrV at HLen
  unfold ptrV
  rcases (show most < 0 ∨ 0 ≤ most by omega) with hneg | hpos
  · have ht : trimN E.length most = 0 := by unfold trimN; rw [if_pos hneg]
    rw [ht]
    have e1 : decide (most < 0) = true := decide_eq_true hneg
    clear h hN ht HLen hneg
    go_enter Tryd.func34, Tryd.ntmps34
    go_wp2_with fail
    go_ret
    exact ⟨rfl, G, T, by rw [List.drop_zero]; exact H0.out, fun k hk => .inl hk, Chg.refl _ _⟩
  · obtain ⟨mo, rfl⟩ : ∃ mo : Nat, most = mo := ⟨most.toNat, by omega⟩
    have ht : trimN E.length mo = N - mo := by unfold trimN; rw [if_neg (by omega), hN]; simp
    rw [ht]
    have e1 : decide ((mo : Int) < 0) = false := decide_eq_false (by omega)
    rcases Nat.lt_or_ge mo N with hmN | hmN
    · obtain ⟨m, hm⟩ : ∃ m, N - mo = m := ⟨_, rfl⟩
      rw [hm]
      have hmle : m ≤ N := by omega
      have e2 : decide ((N : Int) ≤ (mo : Int)) = false := decide_eq_false (by omega)
      have e2' : decide (N ≤ mo) = false := decide_eq_false (by omega)
      have e3 : (N : Int) - (mo : Int) = (m : Int) := by omega
      have e4 : IntKind.i64.wrap ((N : Int) - (mo : Int)) = (m : Int) := by rw [e3]; exact IntWalk.i64_in _ (by omega)
      have HLd0 := fun w' (hb : Below w.heap.size w w') => stmLen (h.core.below hb)
      rw [hN] at HLd0
      have HLd := Lib.hid HLd0
      have HRg := stmRange (c := l.1) (d := l.2) (most := (m : Int)) (h.core.below (belowN (Below.refl w.heap.size w) 1)) (Rows2.chg (Chg.drewN (fun _ => False) w 1) (fun _ _ => id) h.rows) (h.nodes hn) (a := 0) (b := 0) (by omega) (by omega)
      rw [show ((l.1, l.2) : Nat × Nat) = l from rfl, range_all h.top, show ((m : Int)).toNat = m by omega] at HRg
      have HR := Lib.hid HRg
      have c1 := cell_in h.core.head (i := 1) rfl
      have c2 := cell_in h.core.head (i := 2) rfl
      have HC := Lib.hid (show ∀ w', Below w.heap.size w w' → w'.cell? ⟨s, 1, none⟩ = some (.int .u64 l.1) ∧ w'.cell? ⟨s, 2, none⟩ = some (.int .u64 l.2) from fun w' hb => by
        have e1 := (hb.block _ (heap_lt h.core.head)).trans h.core.head
        exact ⟨cell_in e1 rfl, cell_in e1 rfl⟩)
      clear c1 c2
      obtain ⟨lm, lq⟩ := l
      have c0 := HC.out w.drew (belowN (Below.refl _ _) 1)
      obtain ⟨X1, f, hX1, hf, hF⟩ := classOf (fun w' => w'.cell? ⟨s, 1, none⟩ = some (.int .u64 lm) ∧ w'.cell? ⟨s, 2, none⟩ = some (.int .u64 lq)) (w := w.drew) c0
      have f1 := fun x => (hf x).1
      have f2 := fun x => (hf x).2
      have HFa := Lib.hid (hF w.drew c0)
      have HE := Lib.hid (And.intro hN (And.intro hrise (And.intro h64 hn)))
      have HM := Lib.hid (And.intro hm hmN)
      have hN2 : N ≤ 400000 := by omega
      dsimp only at HR
      clear hF hf h c0 hN hrise h64 hm hmN ht HRg hm1 hm2 hn e3 HLd0
      unfold ptrV at HLd HR
      go_enter Tryd.func34, Tryd.ntmps34
      go_wp2_with fail
      refine HLen.out.mono ?_
      rintro e w' ⟨rfl, rfl⟩
      go_upto_region 3 with (fail)
      refine wp_region_text ⟨[7, 10], [11], 10⟩ (fun w' => ∃ x : X1, w' = f x) (by kernel_rfl) (by kernel_rfl) HFa.out ?_
      refine wpC_seg false (HFa.out) 7 0 _ _ (by rfl) (by rfl) ?_
      simp only [List.take_succ_cons, List.take_zero, List.drop_succ_cons, List.drop_zero, Bool.false_eq_true, if_false, Nat.zero_add, Nat.reduceAdd]
      repeat (go_big_quiet_step (fail))
      refine wpQuiet_nil ?_
      refine wpC_loud (by rfl) (by rfl) fun K hK => ?_
      go_wp2_with fail
      refine (HLd.out _ (belowN (Below.refl _ _) 1)).mono ?_
      rintro e w2 ⟨rfl, hww⟩
      rw [hww]
      refine hK _ _ (fun _ => HFa.out) ?_
      clear hK hww w2
      refine wpC_seg false (HFa.out) 2 8 _ _ (by rfl) (by rfl) ?_
      simp only [List.take_succ_cons, List.take_zero, List.drop_succ_cons, List.drop_zero, Bool.false_eq_true, if_false, Nat.zero_add, Nat.reduceAdd]
      repeat (go_big_quiet_step (fail))
      refine wpQuiet_nil ?_
      clear e4
      refine wpC_loud (by rfl) (by rfl) fun K hK => ?_
      go_wp2_with fail
      refine HR.out.mono ?_
      rintro e w2 ⟨v, rfl, o2, b2⟩
      have HB2 := Lib.hid ((belowN (Below.refl w'.heap.size w') 1).trans b2)
      obtain ⟨av, cv, rfl, _, _⟩ := o2.form
      have hlt : (E.take m).length = m := by rw [List.length_take]; have := HE.out.1; omega
      rw [hlt] at o2 ⊢
      have HO := Lib.hid o2
      have HlT := Lib.hid hlt
      refine hK _ _ (fun h => absurd h (by decide)) ?_
      clear hK b2 o2 hlt
      refine wpC_segD 1 11 _ _ (by rfl) (by rfl) ?_
      simp only [List.take_succ_cons, List.take_zero, List.drop_succ_cons, List.drop_zero, if_true, Nat.zero_add, Nat.reduceAdd]
      repeat (go_big_quiet_step (fail))
      refine wpQuiet_nil ?_
      refine wpC_nil ?_
      clear f1 f2 hX1 HFa f HR HLd HLen
      go_wp2_with fail
      go_loopw [29] (fun i wr => ∃ k : Nat, k ≤ m ∧ i = .int .i64 k ∧ Hid (∃ G' T', StmO wr s p G' R T' (E.drop k) (lm, lq) ∧ Fresh w2 G G' ∧ Chg G w2 wr)) (fun i _ => m - (intOf i).toNat)
      case atStart => exact ⟨0, Nat.zero_le _, rfl, Lib.hid ⟨G, T, by rw [List.drop_zero]; exact H0.out.below HB2.out, fun k hk => .inl hk, Chg.refl _ _⟩⟩
      case round =>
        obtain ⟨k, hk, rfl, hI⟩ := hrel
        by_cases hlt : k < m
        · obtain ⟨G', T', hO, hfr, hch⟩ := hI.out
          have hGlt : ∀ j, G j → j < w'.heap.size := H0.out.core.tree.1
          have ho := EntRow.blocks HO.out hch hGlt
          obtain ⟨ar, cr, hv, hrow⟩ := ho.row
          rw [HlT.out] at hv hrow
          simp only [Value.slice.injEq, true_and] at hv
          obtain ⟨rfl, rfl⟩ := hv
          obtain ⟨b, o, x, e, rfl, ⟨c0, c1, c2⟩, he, hxi, _⟩ := hrow.get hlt
          obtain ⟨xm, xq, xa, xn, xc⟩ := x
          dsimp only [vC] at c0 c1 c2
          have heE : E[k]? = some e := by rw [List.getElem?_take_of_lt hlt] at he; exact he
          obtain ⟨hkE, hek⟩ := List.getElem?_eq_some_iff.1 heE
          have he1 : e.1 = (xm, xq) := hxi.symm
          have h64 := HE.out.2.2.1 e (by rw [← hek]; exact List.getElem_mem hkE)
          rw [he1] at h64
          obtain ⟨W5, hW5⟩ : ∃ W5, W5 = wr.alloc (.cells #[.int .u64 xm, .int .u64 xq, .slice xa xn xc] 39) := ⟨_, rfl⟩
          have hb5 : Below wr.heap.size wr W5 := by rw [hW5]; exact (Below.refl _ _).alloc (Nat.le_refl _) _
          have h55 : W5.heap[wr.heap.size]? = some (.cells #[.int .u64 xm, .int .u64 xq, .slice xa xn xc] 39 (0, 0)) := by rw [hW5]; exact heap_new _ _
          have hO5 := hO.below hb5
          have hO5d := hO5.below (belowN (Below.refl W5.heap.size W5) 1)
          have HD := Lib.hid (tree_del hO5d (by rw [List.length_drop]; have := HE.out.2.2.2; omega) h64.1 h64.2)
          have HEnd := Lib.hid (show ∀ w3 G'' T'', StmO w3 s p G'' R T'' ((E.drop k).filter fun e => !decide (e.1 = (xm, xq))) (lm, lq) → Fresh (W5.drewN 1) G' G'' → Chg G' (W5.drewN 1) w3 → ∃ G' T', StmO w3 s p G' R T' (E.drop (k + 1)) (lm, lq) ∧ Fresh w2 G G' ∧ Chg G w2 w3 from fun w3 G'' T'' h1 h2 h3 => by
            rw [← he1, ← hek, drop_filter HE.out.2.1 hkE] at h1
            have hsz : w2.heap.size ≤ W5.heap.size := Nat.le_trans hch.size hb5.size
            refine ⟨G'', T'', h1, fun j hj => ?_, ((hch.trans (Chg.of_below G (hb5.trans ((belowN (Below.refl W5.heap.size W5) 1).mono hb5.size))) fun _ h _ => h).trans h3 fun j hj hlt => ?_)⟩
            · rcases h2 j hj with h' | h'
              · exact hfr j h'
              · exact .inr (Nat.le_trans hsz h')
            · rcases hfr j hj with h' | h'
              · exact h'
              · omega)
          have hc0 := cell_in hO5d.core.head (i := 0) rfl
          have hc1 := cell_in h55 (i := 0) rfl
          have hc2 := cell_in h55 (i := 1) rfl
          unfold ptrV at hc0
          obtain ⟨X1, f, hX1, hf, hF⟩ := classOf (fun w' => w'.cell? ⟨s, 0, none⟩ = some (.pointer (some ⟨p, 0, none⟩)) ∧ w'.cell? ⟨wr.heap.size, 0, none⟩ = some (.int .u64 xm) ∧ w'.cell? ⟨wr.heap.size, 1, none⟩ = some (.int .u64 xq)) (w := W5.drew) ⟨hc0, hc1, hc2⟩
          have f1 := fun x => (hf x).1
          have f2 := fun x => (hf x).2.1
          have f3 := fun x => (hf x).2.2
          have HFa := Lib.hid (hF W5.drew ⟨hc0, hc1, hc2⟩)
          have HW5 := Lib.hid hW5
          unfold ptrV at HD
          clear hF hf hc0 hc1 hc2 hO hfr hch hGlt ho hrow hxi he heE hkE hek he1 h64 hW5 hb5 h55 hO5 hO5d hI
          go_upto_region 7 with (fail)
          rw [← HW5.out]
          refine wp_region_text ⟨[6], [], 6⟩ (fun w' => ∃ x : X1, w' = f x) (by kernel_rfl) (by kernel_rfl) HFa.out ?_
          refine wpC_seg false (HFa.out) 6 0 _ _ (by rfl) (by rfl) ?_
          simp only [List.take_succ_cons, List.take_zero, List.drop_succ_cons, List.drop_zero, Bool.false_eq_true, if_false, Nat.zero_add, Nat.reduceAdd]
          repeat (go_big_quiet_step (fail))
          refine wpQuiet_nil ?_
          refine wpC_loud (by rfl) (by rfl) fun K hK => ?_
          go_wp2_with fail
          refine HD.out.mono ?_
          rintro e' w3 ⟨rfl, G'', T'', h1, h2, h3⟩
          have HN := Lib.hid (HEnd.out w3 G'' T'' h1 h2 h3)
          refine hK _ _ (fun h => absurd h (by decide)) ?_
          clear hK h1 h2 h3 HEnd HD
          refine wpC_nil ?_
          clear f1 f2 f3 hX1 HFa f c0 c1 c2
          go_wp2_with fail
          go_roundw
          case rel => exact ⟨k + 1, by omega, by go_num, HN⟩
          case measure => simp [intOf]; omega
        · obtain rfl : m = k := by omega
          obtain ⟨G', T', hO, hfr, hch⟩ := hI.out
          have HN := Lib.hid (And.intro hO (And.intro (show Fresh w' G G' from fun j hj => (hfr j hj).imp id fun h => Nat.le_trans HB2.out.size h) ((Chg.of_below G HB2.out).trans hch fun _ h _ => h)))
          clear hO hfr hch hI
          go_wp2_with fail
          go_ret
          exact ⟨rfl, _, _, HN.out⟩
    · have hz : N - mo = 0 := by omega
      rw [hz]
      have e2 : decide ((N : Int) ≤ (mo : Int)) = true := decide_eq_true (by omega)
      have e2' : decide (N ≤ mo) = true := decide_eq_true hmN
      clear h hN ht hpos hz
      go_enter Tryd.func34, Tryd.ntmps34
      go_wp2_with fail
      refine HLen.out.mono ?_
      rintro e w' ⟨rfl, rfl⟩
      go_wp2_with fail
      go_ret
      exact ⟨rfl, G, T, by rw [List.drop_zero]; exact H0.out, fun k hk => .inl hk, Chg.refl _ _⟩
end Go.Proofs.YtbjpfnafhhbmaaaDoor.Sad

/- rows of asks; the law's played. -/
namespace Go.Proofs.YtbjpfnafhhbmaaaDoor.Sad
open Go.Proofs.YtbjpfnafhhbmaaaDoor
set_option linter.unusedVariables false
set_option linter.unusedSimpArgs false
open Go.RowKit RT Go.Shelf
theorem stm_trim {w : World} {s : Nat} {F : Nat → Prop} {E : List Ent} {l : Nat × Nat} (h : Stm w s F E l) (hn : E.length ≤ 400000) {most : Int} (hm1 : -9223372036854775808 ≤ most) (hm2 : most ≤ 9223372036854775807) :
    Calls Tryd.prog 34 #[ptrV s, .int .i64 most] w fun e w' => e = .returned (.int .i64 (trimN E.length most : Nat)) ∧ ∃ F', Stm w' s F' (E.drop (trimN E.length most)) l ∧ Fresh w F F' ∧ Chg F w w' := by
  have hr := h.rise
  have h6 := h.lt64.2
  obtain ⟨p, G, R, T, h, hF⟩ := h
  refine (stmTrim h hn hr h6 hm1 hm2).mono ?_
  rintro e w' ⟨rfl, G', T', h1, h2, h3⟩
  refine ⟨rfl, fun j => j = s ∨ G' j ∨ R j, ⟨p, G', R, T', h1, fun k => Iff.rfl⟩, ?_, h3.mono fun j hj _ => (hF j).2 (.inr (.inl hj))⟩
  rintro j (rfl | hj | hj)
  · exact .inl ((hF _).2 (.inl rfl))
  · exact (h2 j hj).imp (fun h => (hF _).2 (.inr (.inl h))) id
  · exact .inl ((hF _).2 (.inr (.inr hj)))
/-- An ask. -/
structure AskN where
  k : Int
  id : Nat × Nat
  a : Option Addr
  n : Nat
  c : Nat
  L : List PairT
  to : Nat × Nat
  N : Int
/-- It stands in memory from a cell on. -/
structure AskAt (w : World) (b o : Nat) (A : AskN) : Prop where
  c0 : w.cell? ⟨b, o, none⟩ = some (.int .u8 A.k)
  c1 : w.cell? ⟨b, o + 1, none⟩ = some (.int .u64 A.id.1)
  c2 : w.cell? ⟨b, o + 1 + 1, none⟩ = some (.int .u64 A.id.2)
  c3 : w.cell? ⟨b, o + 1 + 1 + 1, none⟩ = some (.slice A.a A.n A.c)
  c4 : w.cell? ⟨b, o + 4, none⟩ = some (.int .u64 A.to.1)
  c5 : w.cell? ⟨b, o + 4 + 1, none⟩ = some (.int .u64 A.to.2)
  c6 : w.cell? ⟨b, o + 6, none⟩ = some (.int .i64 A.N)
  row : PairRow w A.a A.n A.c A.L
  nle : A.n ≤ 4000000000000
  kb : 0 ≤ A.k ∧ A.k ≤ 255
  idb : A.id.1 < 18446744073709551616 ∧ A.id.2 < 18446744073709551616
  tob : A.to.1 < 18446744073709551616 ∧ A.to.2 < 18446744073709551616
  nb : -9223372036854775808 ≤ A.N ∧ A.N ≤ 9223372036854775807
theorem AskAt.below {w w' : World} {b o : Nat} {A : AskN} (h : AskAt w b o A) (hb : Below w.heap.size w w') : AskAt w' b o A := by
  have e : ∀ x v, w.cell? ⟨b, x, none⟩ = some v → w'.cell? ⟨b, x, none⟩ = some v := fun x v hv => (hb.cell (p := ⟨b, x, none⟩) (World.block_lt_of_cell? w _ hv)).trans hv
  exact ⟨e _ _ h.c0, e _ _ h.c1, e _ _ h.c2, e _ _ h.c3, e _ _ h.c4, e _ _ h.c5, e _ _ h.c6, h.row.below hb, h.nle, h.kb, h.idb, h.tob, h.nb⟩
def AskRow (w : World) (a : Option Addr) (n c : Nat) (Q : List AskN) : Prop :=
  Q.length = n ∧ n ≤ c ∧ (n = 0 ∨ ∃ b o, a = some ⟨b, o, none⟩ ∧ ∀ i (h : i < Q.length), AskAt w b (o + i * 7) Q[i])
theorem AskRow.below {w w' : World} {a : Option Addr} {n c : Nat} {Q : List AskN} (h : AskRow w a n c Q) (hb : Below w.heap.size w w') : AskRow w' a n c Q := by
  refine ⟨h.1, h.2.1, h.2.2.imp id ?_⟩
  rintro ⟨b, o, e, hc⟩
  exact ⟨b, o, e, fun i hi => (hc i hi).below hb⟩
theorem AskRow.get {w : World} {a : Option Addr} {n c : Nat} {Q : List AskN} (h : AskRow w a n c Q) {i : Nat} (hi : i < n) : ∃ b o A, a = some ⟨b, o, none⟩ ∧ AskAt w b (o + i * 7) A ∧ Q[i]? = some A := by
  obtain ⟨h1, h2, h3⟩ := h
  obtain ⟨b, o, e, hc⟩ := h3.resolve_left (by omega)
  exact ⟨b, o, Q[i]'(by omega), e, hc i (by omega), List.getElem?_eq_getElem _⟩
/-- May the ask's entry be added? -/
def mayAdd (l : Nat × Nat) (A : AskN) : Bool := decide (A.n ≠ 0) && !A.L.any longP && lessN l A.id
def addP (st : List Ent × (Nat × Nat)) (A : AskN) : List Ent × (Nat × Nat) := if mayAdd st.2 A then (st.1 ++ [(A.id, A.L)], A.id) else st
/-- A stream behind an ask. -/
def stepP (st : List Ent × (Nat × Nat)) (A : AskN) : List Ent × (Nat × Nat) :=
  if A.k = 2 then (st.1.filter fun e => !decide (e.1 = A.id), st.2)
  else if A.k = 3 then (st.1, if lessN A.id st.2 then st.2 else A.id)
  else if A.k = 5 then (st.1.drop (trimN st.1.length A.N), st.2)
  else addP st A
def playP (Q : List AskN) (k : Nat) : List Ent × (Nat × Nat) := (Q.take k).foldl stepP ([], (0, 0))
theorem playP_succ {Q : List AskN} {k : Nat} {A : AskN} (h : Q[k]? = some A) : playP Q (k + 1) = stepP (playP Q k) A := by
  obtain ⟨hk, rfl⟩ := List.getElem?_eq_some_iff.1 h
  unfold playP
  rw [List.take_succ_eq_append_getElem hk, List.foldl_append]
  rfl
theorem stepP_len (st : List Ent × (Nat × Nat)) (A : AskN) : (stepP st A).1.length ≤ st.1.length + 1 := by
  unfold stepP addP
  split
  · exact Nat.le_succ_of_le (List.length_filter_le _ _)
  · split
    · exact Nat.le_succ _
    · split
      · show (st.1.drop _).length ≤ _
        rw [List.length_drop]; omega
      · split
        · show (st.1 ++ _).length ≤ _
          simp
        · exact Nat.le_succ _
theorem playP_len (Q : List AskN) : ∀ k, (playP Q k).1.length ≤ k
  | 0 => by simp [playP]
  | k + 1 => by
    cases h : Q[k]? with
    | none =>
      have hk := List.getElem?_eq_none_iff.1 h
      have e : playP Q (k + 1) = playP Q k := by unfold playP; rw [List.take_of_length_le hk, List.take_of_length_le (by omega)]
      rw [e]
      exact Nat.le_succ_of_le (playP_len Q k)
    | some A =>
      rw [playP_succ h]
      exact Nat.le_trans (stepP_len _ _) (Nat.succ_le_succ (playP_len Q k))
/-- Add of an ask's entry. -/
theorem stm_addAsk {w : World} {s : Nat} {F : Nat → Prop} {E : List Ent} {l : Nat × Nat} (h : Stm w s F E l) (hn : E.length < 1048576) {A : AskN} (hp : PairRow w A.a A.n A.c A.L) (hk : A.n ≤ 4000000000000) (hid : A.id.1 < 18446744073709551616 ∧ A.id.2 < 18446744073709551616) :
    Calls Tryd.prog 25 #[ptrV s, .agg #[.int .u64 A.id.1, .int .u64 A.id.2, .slice A.a A.n A.c]] w fun e w' => e = .returned (.int .i64 (if mayAdd l A then 0 else 1)) ∧ ∃ F', Stm w' s F' (addP (E, l) A).1 (addP (E, l) A).2 ∧ Fresh w F F' ∧ Chg F w w' := by
  by_cases hm : mayAdd l A = true
  · have hm' := hm
    unfold mayAdd at hm'
    simp only [Bool.and_eq_true, decide_eq_true_eq, Bool.not_eq_true'] at hm'
    refine (stm_add h hp hk hid.1 hid.2 (by omega) hm'.1.2 hm'.2 hn).mono ?_
    rintro e w' ⟨rfl, F', h1, h2, h3⟩
    unfold addP
    rw [if_pos hm, if_pos hm]
    exact ⟨rfl, F', h1, h2, h3⟩
  · have hm' : mayAdd l A = false := by simpa using hm
    unfold mayAdd at hm'
    refine (stm_add_bad h hp (by omega) A.id.1 A.id.2 ?_).mono ?_
    · rw [Bool.and_eq_false_iff, Bool.and_eq_false_iff] at hm'
      rcases hm' with (h' | h') | h'
      · left; simpa using h'
      · right; left; simpa using h'
      · right; right; exact h'
    · rintro e w' ⟨rfl, h1⟩
      unfold addP
      rw [if_neg hm, if_neg hm]
      exact ⟨rfl, F, h.below h1, fun k hk => .inl hk, Chg.of_below _ h1⟩
set_option maxHeartbeats 6400000 in
set_option maxRecDepth 100000 in
theorem played_any {w : World} {a : Option Addr} {n c : Nat} {Q : List AskN} (h : AskRow w a n c Q) (hn : n ≤ 281474976710656) :
    Calls Tryd.prog 14 #[.slice a n c] w fun e w' => ∃ s F, e = .returned (ptrV s) ∧ Stm w' s F (playP Q 200).1 (playP Q 200).2 ∧ (∀ k, F k → w.heap.size ≤ k) ∧ Below w.heap.size w w' := by
  have HN := Lib.hid (stm_new w)
  have HR := Lib.hid h
  clear h
  go_enter Tryd.func14, Tryd.ntmps14
  go_wp2_with fail
  refine HN.out.mono ?_
  rintro e w1 ⟨s, F, rfl, h1, h2, h3⟩
  have H1 := Lib.hid (show ∃ F, Stm w1 s F (playP Q 0).1 (playP Q 0).2 ∧ (∀ k, F k → w.heap.size ≤ k) ∧ Below w.heap.size w w1 from ⟨F, h1, h3, h2⟩)
  clear h1 h2 h3 HN
  unfold ptrV
  go_wp2_with fail
  go_loopw [4] (fun i wr => ∃ k : Nat, (k ≤ n ∧ k ≤ 200) ∧ i = .int .i64 k ∧ Hid (∃ F, Stm wr s F (playP Q k).1 (playP Q k).2 ∧ (∀ k, F k → w.heap.size ≤ k) ∧ Below w.heap.size w wr)) (fun i _ => n - (intOf i).toNat)
  case atStart => exact ⟨0, ⟨Nat.zero_le _, Nat.zero_le _⟩, rfl, H1⟩
  case round =>
    obtain ⟨k, ⟨hk, hk2⟩, rfl, hI⟩ := hrel
    by_cases hlt : k < n ∧ k < 200
    · obtain ⟨hlt, hlt2⟩ := hlt
      obtain ⟨F, hS, hF, hB⟩ := hI.out
      obtain ⟨b, o, A, rfl, hA, hQ⟩ := (HR.out.below hB).get hlt
      have hlen := playP_len Q k
      have hsucc := playP_succ hQ
      have c0 := hA.c0
      have c1 := hA.c1
      have c2 := hA.c2
      have c3 := hA.c3
      have c6 := hA.c6
      have HEnd := Lib.hid (show ∀ w' F', Stm w' s F' (playP Q (k + 1)).1 (playP Q (k + 1)).2 → Fresh wr F F' → Chg F wr w' → ∃ F, Stm w' s F (playP Q (k + 1)).1 (playP Q (k + 1)).2 ∧ (∀ k, F k → w.heap.size ≤ k) ∧ Below w.heap.size w w' from fun w' F' h1 h2 h3 =>
        ⟨F', h1, fun j hj => by rcases h2 j hj with h' | h'; exact hF j h'; exact Nat.le_trans hB.size h', belowChg hB h3 hB.size fun j hj _ => hF j hj⟩)
      have j1 : (k : Int) < (n : Int) := by omega
      have j2 : decide ((k : Int) < 200) = true := decide_eq_true (by omega)
      have HK := Lib.hid (And.intro hlt hlt2)
      by_cases hk2' : A.k = 2
      · have e1 : (A.k == 2) = true := by simp [hk2']
        have hC := stm_del hS (by omega) hA.idb.1 hA.idb.2
        unfold ptrV at hC
        have HC := Lib.hid hC
        have hst : playP Q (k + 1) = ((playP Q k).1.filter fun e => !decide (e.1 = A.id), (playP Q k).2) := by rw [hsucc]; unfold stepP; rw [if_pos hk2']
        have HST := Lib.hid hst
        clear hC hst hS hF hB hA hQ hlen hsucc hI hk2'
        go_wp2_with fail
        refine HC.out.mono ?_
        rintro e w2 ⟨rfl, F', h1, h2, h3⟩
        have HN := Lib.hid (HEnd.out w2 F' (by rw [HST.out]; exact h1) h2 h3)
        clear h1 h2 h3 HEnd HC c0 c1 c2 c3 c6
        go_wp2_with fail
        go_roundw
        case rel => exact ⟨k + 1, ⟨by omega, by omega⟩, by go_num, HN⟩
        case measure => simp [intOf]; omega
      · have e1 : (A.k == 2) = false := by simp [hk2']
        by_cases hk3 : A.k = 3
        · have e2 : (A.k == 3) = true := by simp [hk3]
          have hC : Calls Tryd.prog 33 #[ptrV s, .agg #[.int .u64 A.id.1, .int .u64 A.id.2]] wr fun e w' => ∃ v, e = .returned v ∧ ∃ F', Stm w' s F' (playP Q k).1 (if lessN A.id (playP Q k).2 then (playP Q k).2 else A.id) ∧ Fresh wr F F' ∧ Chg F wr w' :=
            (stm_setLast hS hA.idb.1 hA.idb.2).mono fun e w' ⟨h1, h2, h3⟩ => ⟨_, h1, F, h2, fun j hj => .inl hj, h3⟩
          unfold ptrV at hC
          have HC := Lib.hid hC
          have hst : playP Q (k + 1) = ((playP Q k).1, if lessN A.id (playP Q k).2 then (playP Q k).2 else A.id) := by rw [hsucc]; unfold stepP; rw [if_neg hk2', if_pos hk3]
          have HST := Lib.hid hst
          clear hC hst hS hF hB hA hQ hlen hsucc hI hk2' hk3
          go_wp2_with fail
          refine HC.out.mono ?_
          rintro e w2 ⟨v, rfl, F', h1, h2, h3⟩
          have HN := Lib.hid (HEnd.out w2 F' (by rw [HST.out]; exact h1) h2 h3)
          clear h1 h2 h3 HEnd HC c0 c1 c2 c3 c6
          go_wp2_with fail
          go_roundw
          case rel => exact ⟨k + 1, ⟨by omega, by omega⟩, by go_num, HN⟩
          case measure => simp [intOf]; omega
        · have e2 : (A.k == 3) = false := by simp [hk3]
          by_cases hk5 : A.k = 5
          · have e3 : (A.k == 5) = true := by simp [hk5]
            have hC := stm_trim hS (by omega) hA.nb.1 hA.nb.2
            unfold ptrV at hC
            have HC := Lib.hid hC
            have hst : playP Q (k + 1) = ((playP Q k).1.drop (trimN (playP Q k).1.length A.N), (playP Q k).2) := by rw [hsucc]; unfold stepP; rw [if_neg hk2', if_neg hk3, if_pos hk5]
            have HST := Lib.hid hst
            clear hC hst hS hF hB hA hQ hlen hsucc hI hk2' hk3 hk5
            go_wp2_with fail
            refine HC.out.mono ?_
            rintro e w2 ⟨rfl, F', h1, h2, h3⟩
            have HN := Lib.hid (HEnd.out w2 F' (by rw [HST.out]; exact h1) h2 h3)
            clear h1 h2 h3 HEnd HC c0 c1 c2 c3 c6
            go_wp2_with fail
            go_roundw
            case rel => exact ⟨k + 1, ⟨by omega, by omega⟩, by go_num, HN⟩
            case measure => simp [intOf]; omega
          · have e3 : (A.k == 5) = false := by simp [hk5]
            have hC := stm_addAsk hS (by omega) hA.row hA.nle hA.idb
            unfold ptrV at hC
            have HC := Lib.hid hC
            have hst : playP Q (k + 1) = addP ((playP Q k).1, (playP Q k).2) A := by rw [hsucc]; unfold stepP; rw [if_neg hk2', if_neg hk3, if_neg hk5]
            have HST := Lib.hid hst
            clear hC hst hS hF hB hA hQ hlen hsucc hI hk2' hk3 hk5
            go_wp2_with fail
            refine HC.out.mono ?_
            rintro e w2 ⟨rfl, F', h1, h2, h3⟩
            have HN := Lib.hid (HEnd.out w2 F' (by rw [HST.out]; exact h1) h2 h3)
            clear h1 h2 h3 HEnd HC c0 c1 c2 c3 c6
            go_wp2_with fail
            go_roundw
            case rel => exact ⟨k + 1, ⟨by omega, by omega⟩, by go_num, HN⟩
            case measure => simp [intOf]; omega
    · have HEnd := Lib.hid (show playP Q k = playP Q 200 by
        unfold playP
        rcases Nat.lt_or_ge k 200 with h' | h'
        · have : n ≤ k := by omega
          have hq := HR.out.1
          rw [List.take_of_length_le (by omega), List.take_of_length_le (by omega)]
        · rw [show k = 200 by omega])
      rcases Nat.lt_or_ge k n with h' | h'
      · have j1 : (k : Int) < (n : Int) := by omega
        have j2 : decide ((k : Int) < 200) = false := decide_eq_false (by omega)
        clear hlt
        go_wp2_with fail
        go_ret
        obtain ⟨F, h1, h2, h3⟩ := hI.out
        rw [HEnd.out] at h1
        exact ⟨s, F, rfl, h1, h2, h3⟩
      · obtain rfl : n = k := by omega
        clear hlt
        go_wp2_with fail
        go_ret
        obtain ⟨F, h1, h2, h3⟩ := hI.out
        rw [HEnd.out] at h1
        exact ⟨s, F, rfl, h1, h2, h3⟩
end Go.Proofs.YtbjpfnafhhbmaaaDoor.Sad

/- what StreamSplits leans on: a slice cut short, two joined; the plain law. -/
namespace Go.Proofs.YtbjpfnafhhbmaaaDoor.Sad
open Go.Proofs.YtbjpfnafhhbmaaaDoor
set_option linter.unusedVariables false
set_option linter.unusedSimpArgs false
open Go.RowKit RT Go.Shelf
theorem SliceN.take {w : World} {B : Nat} {e : TypeId} {z : Nat} {a : Option Addr} {n c : Nat} {xs : List Value} (h : SliceN w B e z (.slice a n c) n xs) {k : Nat} (hk : k ≤ n) : SliceN w B e z (.slice a k c) k (xs.take (k * z)) := by
  refine ⟨by rw [List.length_take, h.1]; exact Nat.min_eq_left (Nat.mul_le_mul_right _ hk), ?_⟩
  rcases h.2 with ⟨h1, h2⟩ | ⟨g, cap, cur, h1, h2, h3, h4, h5, h6, h7⟩
  · simp only [Value.slice.injEq] at h1
    obtain ⟨rfl, _, rfl⟩ := h1
    obtain rfl : k = 0 := by omega
    exact .inl ⟨rfl, rfl⟩
  · simp only [Value.slice.injEq, true_and] at h1
    obtain ⟨rfl, rfl⟩ := h1
    refine .inr ⟨g, c, cur, rfl, h2, h3, h4, by omega, h6, ?_⟩
    rw [← h7, List.take_take, Nat.min_eq_left (Nat.mul_le_mul_right _ hk)]
theorem flat_take : ∀ (A : List Told) (k : Nat), (A.flatMap entV).take (k * 3) = (A.take k).flatMap entV
  | [], k => by simp
  | x :: A, 0 => by simp
  | x :: A, k + 1 => by
    rw [List.flatMap_cons, List.take_succ_cons, List.flatMap_cons, show (k + 1) * 3 = 3 + k * 3 by omega, ← flat_take A k]
    rw [List.take_append, List.take_of_length_le (by simp [entV])]
    simp [entV]
theorem Rows2.take {w : World} {Q : Nat → Prop} : ∀ {xs : List Told} {es : List Ent} (k : Nat), Rows2 w Q xs es → Rows2 w Q (xs.take k) (es.take k)
  | [], [], k, _ => by simp; trivial
  | x :: xs, e :: es, 0, _ => trivial
  | x :: xs, e :: es, k + 1, h => ⟨h.1, Rows2.take k h.2⟩
  | [], _ :: _, _, h => h.elim
  | _ :: _, [], _, h => h.elim
theorem EntsOut.take {w : World} {n₀ : Nat} {a : Option Addr} {n c : Nat} {E : List Ent} (h : EntsOut w n₀ (.slice a n c) E) {k : Nat} (hk : k ≤ n) : EntsOut w n₀ (.slice a k c) (E.take k) := by
  obtain ⟨Vs, h1, h2, h3⟩ := h
  have hl : Vs.length = n := by
    obtain ⟨a', c', e, _⟩ := h1.form
    simp only [Value.slice.injEq] at e
    exact e.2.1.symm
  rw [hl] at h1
  have hv : (Vs.take k).length = k := by rw [List.length_take]; omega
  refine ⟨Vs.take k, ?_, Rows2.imp (fun b _ hb => ⟨hb.1, fun e => hb.2 (by cases a with | none => cases e | some x => exact e)⟩) (Rows2.take k h2), ?_⟩
  · rw [hv, ← flat_take]
    exact SliceN.take h1 hk
  · rw [List.map_take]
    exact h3.sublist (List.take_sublist _ _)
theorem append_none {P : Program} {w : World} {B : Nat} {t ty e : TypeId} {i : TypeInfo} {z : Nat} (ht : P.underlying t = some (.slice e)) (hi : P.info? e = some i) {v : Value} {n : Nat} {xs : List Value} (h : SliceN w B e z v n xs) (A : Option Addr) (c : Nat) :
    (Builtin.append_ #[t, t] ty #[v, .slice A 0 c]).run P w = .ok v w := by
  rcases h.2 with ⟨rfl, rfl⟩ | ⟨g, cap, cur, rfl, _, _, _, hnc, _⟩ <;> cases A <;>
    simp [Builtin.append_, run_underlying ht, sizeOf, typeInfo, hi, Builtin.lenOf, Builtin.firstCells, storeCells, loadCells, loadCellsFrom, *]
theorem EntsOut.join {w : World} {n₁ n₂ : Nat} {v v2 : Value} {E1 E2 : List Ent} (h1 : EntsOut w n₁ v E1) (h2 : EntsOut w n₂ v2 E2) (hn : n₁ ≤ w.heap.size) (hap : ∀ k, vblock v = some k → k < n₂) (hsz : E1.length + E2.length ≤ 1000000000) :
    ∃ v' w' a c, (Builtin.append_ #[34, 34] 34 #[v, v2]).run Tryd.prog w = .ok v' w' ∧ v' = .slice a (E1 ++ E2).length c ∧ EntRow w' a (E1 ++ E2).length c (E1 ++ E2) ∧ Chg (fun k => vblock v = some k) w w' := by
  obtain ⟨i0, g1, g2, g3, g4⟩ := info_parts info_entry
  obtain ⟨a2, c2, hv2, hrow2⟩ := h2.row
  rcases Nat.eq_zero_or_pos E2.length with h0 | h0
  · have hE2 : E2 = [] := List.eq_nil_of_length_eq_zero h0
    subst hE2
    obtain ⟨a1, c1, hv1, hrow1⟩ := h1.row
    obtain ⟨Vs, s1, _⟩ := h1
    refine ⟨v, w, a1, c1, ?_, by rw [List.append_nil]; exact hv1, by rw [List.append_nil]; exact hrow1, Chg.refl _ _⟩
    rw [hv2]
    exact append_none Tryd.underlying34 g1 s1 _ _
  · obtain ⟨Vs, s1, r1, d1⟩ := h1
    obtain ⟨Us, s2, r2, d2⟩ := h2
    have l1 := r1.length
    have l2 := r2.length
    obtain ⟨g, cap, cur, he, _⟩ := s2.2.resolve_left (by omega)
    obtain ⟨v', w', hr, s3, c3, hv3⟩ := run_append_ownN (P := Tryd.prog) (t := 34) (ty := 34) (z := 3) (w := w) Tryd.underlying34 g1 g2 g3 g4 rfl s1 hn ⟨g, 0, none⟩ Us.length cap (Us.flatMap entV) (by omega) s2.1 (fun j u hu => by
      rw [Addr.add_lit, Nat.zero_add]
      have hj : j < Us.length * 3 := by
        rcases Nat.lt_or_ge j (Us.flatMap entV).length with h | h
        · rw [s2.1] at h; exact h
        · rw [List.getElem?_eq_none h] at hu; cases hu
      rw [s2.cell he hj]
      simp [List.getD, hu]) (fun u hu => by
      obtain ⟨x, _, hx⟩ := List.mem_flatMap.1 hu
      simp [entV] at hx
      rcases hx with rfl | rfl | rfl <;> rfl) (by unfold maxLen; omega) (by omega)
    have hr' : (Builtin.append_ #[34, 34] 34 #[v, v2]).run Tryd.prog w = .ok v' w' := by rw [he]; exact hr
    have hRows : Rows2 w' (fun _ => True) (Vs ++ Us) (E1 ++ E2) := by
      refine Rows2.append (Rows2.imp (fun _ _ _ => trivial) (Rows2.chg c3 (fun b hb he => hb.2 he) r1)) (Rows2.imp (fun _ _ _ => trivial) (Rows2.chg c3 (fun b hb he => ?_) r2))
      have := hap b he
      omega
    have hs3 : SliceN w' n₁ 39 3 v' (Vs ++ Us).length ((Vs ++ Us).flatMap entV) := by rw [List.length_append, List.flatMap_append]; exact s3
    have hl3 := hRows.length
    obtain ⟨a, c, hv, hc, _⟩ := hs3.form
    rw [hl3] at hv hc
    refine ⟨v', w', a, c, hr', hv, ⟨rfl, hc, .inr ?_⟩, c3⟩
    obtain ⟨g', cap', cur', he', _⟩ := hs3.2.resolve_left (by rw [List.length_append]; omega)
    rw [hv] at he'
    simp only [Value.slice.injEq] at he'
    obtain ⟨rfl, _, rfl⟩ := he'
    refine ⟨g', 0, rfl, fun i hi => ?_⟩
    have hi' : i < (Vs ++ Us).length := by omega
    have hrr := hRows.get i hi' hi
    refine ⟨(Vs ++ Us)[i], fun j hj => ?_, hrr.1, hrr.2.1, hrr.2.2.1.2⟩
    have := hs3.cell (g := g') (i := i * 3 + j) hv (by omega)
    rw [Nat.zero_add, this, flatE (Vs ++ Us) i hi' j hj]
abbrev RisesE (E : List Ent) : Prop := E.Pairwise fun x y => lessN x.1 y.1 = true
/-- Rising entries: those up to a place and those from it on. -/
theorem split_rise {E : List Ent} (h : RisesE E) (t : Nat × Nat) : ∃ A B, E = A ++ B ∧ (∀ e ∈ A, lessN e.1 t = true) ∧ (∀ e ∈ B, lessN e.1 t = false) := by
  induction E with
  | nil => exact ⟨[], [], rfl, by simp, by simp⟩
  | cons x E ih =>
    have h' := List.pairwise_cons.1 h
    cases hx : lessN x.1 t with
    | true =>
      obtain ⟨A, B, e, hA, hB⟩ := ih h'.2
      exact ⟨x :: A, B, by rw [e]; rfl, fun y hy => by rcases List.mem_cons.1 hy with rfl | hy; exact hx; exact hA y hy, hB⟩
    | false =>
      refine ⟨[], x :: E, rfl, by simp, fun y hy => ?_⟩
      rcases List.mem_cons.1 hy with rfl | hy
      · exact hx
      · have h1 := h'.1 y hy
        rcases less_total hx with h2 | h2
        · exact less_asymm (less_trans h2 h1)
        · rw [← h2]; exact less_asymm h1
theorem upto_split {A B : List Ent} {t : Nat × Nat} (hA : ∀ e ∈ A, lessN e.1 t = true) (hB : ∀ e ∈ B, lessN e.1 t = false) (h : RisesE (A ++ B)) :
    ((A ++ B).takeWhile fun e => !lessN t e.1) = A ++ (B.take 1).filter fun e => decide (e.1 = t) := by
  induction A with
  | nil =>
    rw [List.nil_append, List.nil_append]
    cases B with
    | nil => rfl
    | cons x B =>
      rw [List.takeWhile_cons]
      have hx := hB x (by simp)
      by_cases he : x.1 = t
      · rw [if_pos (by rw [he, less_irrefl]; rfl)]
        have h2 := (List.pairwise_cons.1 h).1
        have : (B.takeWhile fun e => !lessN t e.1) = [] := by
          cases B with
          | nil => rfl
          | cons y B =>
            rw [List.takeWhile_cons, if_neg]
            have := h2 y (by simp)
            rw [he] at this
            rw [this]; simp
        rw [this]
        simp [he]
      · have : lessN t x.1 = true := by
          rcases less_total hx with h2 | h2
          · exact h2
          · exact absurd h2 he
        rw [if_neg (by rw [this]; simp)]
        simp [he]
  | cons x A ih =>
    rw [List.cons_append, List.takeWhile_cons, if_pos (by rw [less_asymm (hA x (by simp))]; rfl), ih (fun e he => hA e (by simp [he])) (List.pairwise_cons.1 h).2]
    rfl
theorem from_split {A B : List Ent} {t : Nat × Nat} (hA : ∀ e ∈ A, lessN e.1 t = true) (hB : ∀ e ∈ B, lessN e.1 t = false) : ((A ++ B).filter fun e => !lessN e.1 t) = B := by
  rw [List.filter_append, List.filter_eq_nil_iff.2 fun e he => by rw [hA e he]; simp, List.filter_eq_self.2 fun e he => by rw [hB e he]; rfl, List.nil_append]
def topN : Nat × Nat := (18446744073709551615, 18446744073709551615)
theorem top_all {E : List Ent} (h : ∀ e ∈ E, e.1.1 < 18446744073709551616 ∧ e.1.2 < 18446744073709551616) : (E.takeWhile fun e => !lessN topN e.1) = E := by
  induction E with
  | nil => rfl
  | cons x E ih =>
    have hx := h x (by simp)
    have e : lessN topN x.1 = false := by
      unfold lessN topN
      rw [decide_eq_false_iff_not]
      dsimp only
      omega
    rw [List.takeWhile_cons, if_pos (by rw [e]; rfl), ih fun e he => h e (by simp [he])]
end Go.Proofs.YtbjpfnafhhbmaaaDoor.Sad

/- StreamSplits' walk. -/
namespace Go.Proofs.YtbjpfnafhhbmaaaDoor.Sad
open Go.Proofs.YtbjpfnafhhbmaaaDoor
set_option linter.unusedVariables false
set_option linter.unusedSimpArgs false
open Go.RowKit RT Go.Shelf
theorem take_big {E : List Ent} {L : List Ent} (hL : L.length ≤ E.length) (h : E.length ≤ 200) : L.take ((1099511627776 : Int)).toNat = L := List.take_of_length_le (by omega)
theorem filter0 (E : List Ent) : (E.filter fun e => !lessN e.1 (0, 0)) = E := List.filter_eq_self.2 fun e _ => by simp [lessN]
/-- What a range of a stream tells, at a world. -/
theorem range_upto {w : World} {s : Nat} {F : Nat → Prop} {E : List Ent} {l : Nat × Nat} (h : Stm w s F E l) (hn : E.length ≤ 200) (t : Nat × Nat) :
    Calls Tryd.prog 15 #[ptrV s, .agg #[.int .u64 0, .int .u64 0], .agg #[.int .u64 t.1, .int .u64 t.2], .int .i64 1099511627776] w fun e w' => ∃ v, e = .returned v ∧ EntsOut w' w.heap.size v (E.takeWhile fun e => !lessN t e.1) ∧ Below w.heap.size w w' := by
  have := stm_range h (by omega) (a := 0) (b := 0) (c := t.1) (d := t.2) (by omega) (by omega) (most := 1099511627776)
  rw [filter0, show ((t.1, t.2) : Nat × Nat) = t from rfl, take_big (E := E) (List.Sublist.length_le (List.takeWhile_sublist _)) hn] at this
  exact this
theorem range_from {w : World} {s : Nat} {F : Nat → Prop} {E : List Ent} {l : Nat × Nat} (h : Stm w s F E l) (hn : E.length ≤ 200) {t : Nat × Nat} (h1 : t.1 < 18446744073709551616) (h2 : t.2 < 18446744073709551616) :
    Calls Tryd.prog 15 #[ptrV s, .agg #[.int .u64 t.1, .int .u64 t.2], .agg #[.int .u64 18446744073709551615, .int .u64 18446744073709551615], .int .i64 1099511627776] w fun e w' => ∃ v, e = .returned v ∧ EntsOut w' w.heap.size v (E.filter fun e => !lessN e.1 t) ∧ Below w.heap.size w w' := by
  have := stm_range h (by omega) (a := t.1) (b := t.2) (c := topN.1) (d := topN.2) h1 h2 (most := 1099511627776)
  rw [show ((t.1, t.2) : Nat × Nat) = t from rfl, show ((topN.1, topN.2) : Nat × Nat) = topN from rfl, top_all (fun e he => h.lt64.2 e (List.mem_filter.1 he).1), take_big (E := E) (List.length_filter_le _ _) hn] at this
  exact this
theorem range_full {w : World} {s : Nat} {F : Nat → Prop} {E : List Ent} {l : Nat × Nat} (h : Stm w s F E l) (hn : E.length ≤ 200) :
    Calls Tryd.prog 15 #[ptrV s, .agg #[.int .u64 0, .int .u64 0], .agg #[.int .u64 18446744073709551615, .int .u64 18446744073709551615], .int .i64 1099511627776] w fun e w' => ∃ v, e = .returned v ∧ EntsOut w' w.heap.size v E ∧ Below w.heap.size w w' := by
  have := range_from h hn (t := (0, 0)) (by omega) (by omega)
  rw [filter0] at this
  exact this
/-- The two stretches, the first one cut where they meet, are all. -/
theorem cut_law {E : List Ent} (h : RisesE E) (t : Nat × Nat) : let L := E.takeWhile fun e => !lessN t e.1; let M := E.filter fun e => !lessN e.1 t;
    (∀ j e, L.length = j + 1 → L[j]? = some e → e.1 = t → M ≠ [] → L.take j ++ M = E) ∧ (L = [] → L ++ M = E) ∧ (M = [] → L ++ M = E) ∧ (∀ j e, L.length = j + 1 → L[j]? = some e → e.1 ≠ t → L ++ M = E) := by
  obtain ⟨A, B, rfl, hA, hB⟩ := split_rise h t
  have h1 := upto_split hA hB h
  have h2 := from_split hA hB
  simp only [h1, h2]
  cases B with
  | nil => simp
  | cons x B =>
    by_cases hx : x.1 = t
    · have hf : ((x :: B).take 1).filter (fun e => decide (e.1 = t)) = [x] := by simp [hx]
      rw [hf]
      refine ⟨fun j e hl he _ _ => ?_, fun hl => by simp at hl, fun hl => by simp at hl, fun j e hl he hne => ?_⟩
      · have : j = A.length := by simp at hl; omega
        rw [this, List.take_left']
        rfl
      · have : j = A.length := by simp at hl; omega
        subst this
        simp at he
        rw [← he] at hne
        exact absurd hx hne
    · have hf : ((x :: B).take 1).filter (fun e => decide (e.1 = t)) = [] := by simp [hx]
      rw [hf, List.append_nil]
      refine ⟨fun j e hl he het _ => ?_, fun _ => rfl, fun _ => rfl, fun _ _ _ _ _ => rfl⟩
      have hm := List.mem_of_getElem? he
      have := hA e hm
      rw [het, less_irrefl] at this
      cases this
set_option maxHeartbeats 6400000 in
set_option maxRecDepth 100000 in
theorem streamSplits_walk {w : World} (hl : Laid w) {a : Option Addr} {n c : Nat} {Q : List AskN} (h : AskRow w a n c Q) (hn : n ≤ 281474976710656) {t : Nat × Nat} (ht : t.1 < 18446744073709551616 ∧ t.2 < 18446744073709551616) :
    Calls Tryd.prog 5 #[.slice a n c, .agg #[.int .u64 t.1, .int .u64 t.2]] w fun e w' => e = .returned (.bool true) ∧ Below w.heap.size w w' := by
  obtain ⟨w1, hw1⟩ : ∃ w1, w1 = w.alloc (.cells #[.int .u64 t.1, .int .u64 t.2] 24) := ⟨_, rfl⟩
  have hb1 : Below w.heap.size w w1 := by rw [hw1]; exact (Below.refl _ _).alloc (Nat.le_refl _) _
  have hh1 : w1.heap[w.heap.size]? = some (.cells #[.int .u64 t.1, .int .u64 t.2] 24 (0, 0)) := by rw [hw1]; exact heap_new _ _
  have HP := Lib.hid (played_any (h.below hb1) hn)
  have HV := Lib.hid (fun w' (hb : Below w.heap.size w w') => lives_any (hl.below hb))
  have HW1 := Lib.hid hw1
  have HB1 := Lib.hid (And.intro hb1 hh1)
  have HLn := Lib.hid (playP_len Q 200)
  have HT := Lib.hid ht
  clear hl h hn hw1 hb1 hh1 ht
  go_enter Tryd.func5, Tryd.ntmps5
  go_wp2_with fail
  rw [← HW1.out]
  refine HP.out.mono ?_
  rintro e w2 ⟨s, F, rfl, hS, hF, b2⟩
  obtain ⟨E, hE⟩ : ∃ E, (playP Q 200).1 = E := ⟨_, rfl⟩
  obtain ⟨l, hl⟩ : ∃ l, (playP Q 200).2 = l := ⟨_, rfl⟩
  rw [hE, hl] at hS
  have hln := HLn.out
  rw [hE] at hln
  have hh2 := (b2.block _ (heap_lt HB1.out.2)).trans HB1.out.2
  have HS := Lib.hid (And.intro hS (And.intro hF (And.intro (HB1.out.1.trans (b2.mono HB1.out.1.size)) (And.intro hh2 hln))))
  have x0 := cell_in hh2 (i := 0) rfl
  have x1 := cell_in hh2 (i := 1) rfl
  have HR1 := Lib.hid (range_upto hS hln t)
  clear hS hF b2 hE hl hln hh2 HP HLn
  unfold ptrV at *
  go_wp2_with fail
  refine HR1.out.mono ?_
  rintro e w3 ⟨v1, rfl, o1, b3⟩
  obtain ⟨L, hL⟩ : ∃ L, (E.takeWhile fun e => !lessN t e.1) = L := ⟨_, rfl⟩
  rw [hL] at o1
  obtain ⟨a1, c1, rfl, _, _⟩ := o1.form
  have HO1 := Lib.hid (And.intro o1 (And.intro b3 hL))
  have hh3 := (b3.block _ (heap_lt HS.out.2.2.2.1)).trans HS.out.2.2.2.1
  have HC := Lib.hid (show ∀ w', Below w3.heap.size w3 w' → w'.cell? ⟨w.heap.size, 0, none⟩ = some (.int .u64 t.1) ∧ w'.cell? ⟨w.heap.size, 1, none⟩ = some (.int .u64 t.2) from fun w' hb => by
    have e1 := (hb.block _ (heap_lt hh3)).trans hh3
    exact ⟨cell_in e1 rfl, cell_in e1 rfl⟩)
  have HK := Lib.hid (fun w' (hb : Below w2.heap.size w2 w') => range_from (HS.out.1.below hb) HS.out.2.2.2.2 HT.out.1 HT.out.2)
  have HFl := Lib.hid (fun w' (hb : Below w2.heap.size w2 w') => range_full (HS.out.1.below hb) HS.out.2.2.2.2)
  unfold ptrV at HK HFl
  have c0 := HC.out w3.drew (belowN (Below.refl _ _) 1)
  obtain ⟨X1, f, hX1, hf, hF⟩ := classOf (fun w' => w'.cell? ⟨w.heap.size, 0, none⟩ = some (.int .u64 t.1) ∧ w'.cell? ⟨w.heap.size, 1, none⟩ = some (.int .u64 t.2)) (w := w3.drew) c0
  have f1 := fun x => (hf x).1
  have f2 := fun x => (hf x).2
  have HF1 := Lib.hid hF
  have HFa := Lib.hid (hF w3.drew c0)
  clear hF hf c0 o1 b3 hL hh3 x0 x1 HR1
  go_upto_region 3 with (fail)
  refine wp_region_text ⟨[2, 3], [4], 3⟩ (fun w' => ∃ x : X1, w' = f x) (by kernel_rfl) (by kernel_rfl) HFa.out ?_
  refine wpC_seg false (HFa.out) 2 0 _ _ (by rfl) (by rfl) ?_
  simp only [List.take_succ_cons, List.take_zero, List.drop_succ_cons, List.drop_zero, Bool.false_eq_true, if_false, Nat.zero_add, Nat.reduceAdd]
  repeat (go_big_quiet_step (fail))
  refine wpQuiet_nil ?_
  refine wpC_loud (by rfl) (by rfl) fun K hK => ?_
  go_wp2_with fail
  refine (top_any _).mono ?_
  rintro e w4 ⟨rfl, b4⟩
  have HB4 := Lib.hid ((belowN (Below.refl w3.heap.size w3) 1).trans b4)
  have HF2 := Lib.hid (HF1.out w4 (HC.out w4 HB4.out))
  refine hK _ _ (fun _ => HF2.out) ?_
  clear hK b4
  refine wpC_loud (by rfl) (by rfl) fun K hK => ?_
  go_wp2_with fail
  refine (HK.out w4 (HO1.out.2.1.trans (HB4.out.mono HO1.out.2.1.size))).mono ?_
  rintro e w5 ⟨v2, rfl, o2, b5⟩
  obtain ⟨M, hM⟩ : ∃ M, (E.filter fun e => !lessN e.1 t) = M := ⟨_, rfl⟩
  rw [hM] at o2
  obtain ⟨a2, c2, rfl, _, _⟩ := o2.form
  have HB5 := Lib.hid (HB4.out.trans (b5.mono HB4.out.size))
  have HO2 := Lib.hid (And.intro o2 (And.intro b5 hM))
  refine hK _ _ (fun h => absurd h (by decide)) ?_
  clear hK o2 b5 hM
  refine wpC_segD 1 4 _ _ (by rfl) (by rfl) ?_
  simp only [List.take_succ_cons, List.take_zero, List.drop_succ_cons, List.drop_zero, if_true, Nat.zero_add, Nat.reduceAdd]
  repeat (go_big_quiet_step (fail))
  refine wpQuiet_nil ?_
  refine wpC_nil ?_
  clear f1 f2 hX1 HF1 HFa HF2 f
  have hlaw := cut_law HS.out.1.rise t
  dsimp only at hlaw
  rw [HO1.out.2.2, HO2.out.2.2] at hlaw
  have HLaw := Lib.hid hlaw
  obtain ⟨m, hm⟩ : ∃ m, M.length = m := ⟨_, rfl⟩
  have HM := Lib.hid hm
  have hLlen : L.length ≤ 200 := by
    have h1 := HS.out.2.2.2.2
    have h2 : L.length ≤ E.length := by rw [← HO1.out.2.2]; exact List.Sublist.length_le (List.takeWhile_sublist _)
    omega
  have hb35 := HB5.out
  have o15 := HO1.out.1.below hb35
  have hc5 := HC.out w5.drew (belowN hb35 1)
  have hrow := (o15.below (belowN (Below.refl w5.heap.size w5) 1)).row
  obtain ⟨a1', c1', hv1, hrow⟩ := hrow
  simp only [Value.slice.injEq, true_and] at hv1
  obtain ⟨rfl, rfl⟩ := hv1
  have HRow := Lib.hid hrow
  have HO15 := Lib.hid o15
  have HC5 := Lib.hid hc5
  rw [hm]
  clear hlaw hb35 o15 hc5 hrow hm
  obtain ⟨k, hk⟩ : ∃ k, L.length = k := ⟨_, rfl⟩
  have HLk := Lib.hid hk
  rw [hk] at hLlen
  rw [hk]
  clear hk
  rcases Nat.eq_zero_or_pos k with hk0 | hk0
  · have e1 : decide ((0 : Int) < (k : Int)) = false := decide_eq_false (by omega)
    have e1' : decide (0 < k) = false := decide_eq_false (by omega)
    have HJ := Lib.hid (show ∃ LL, EntsOut (w5.drewN 1) w2.heap.size (.slice a1 k c1) LL ∧ LL ++ M = E ∧ LL.length ≤ 200 from ⟨L, by rw [← HLk.out]; exact HO15.out.below (belowN (Below.refl _ _) 1), HLaw.out.2.1 (List.eq_nil_of_length_eq_zero (by rw [HLk.out]; exact hk0)), by rw [HLk.out]; exact hLlen⟩)
    obtain ⟨j, rfl⟩ : ∃ j, k = j := ⟨_, rfl⟩
    clear hk0
    obtain ⟨X1, f, hX1, hf, hF⟩ := classOf (fun w' => w'.cell? ⟨w.heap.size, 0, none⟩ = some (.int .u64 t.1)) (w := w5.drew) HC5.out.1
    have HFa := Lib.hid (hF w5.drew HC5.out.1)
    clear hF hf
    go_upto_region 4 with (fail)
    refine wp_region_text ⟨[], [], 19⟩ (fun w' => ∃ x : X1, w' = f x) (by kernel_rfl) (by kernel_rfl) HFa.out ?_
    refine wpC_seg false (HFa.out) 19 0 _ _ (by rfl) (by rfl) ?_
    simp only [List.take_succ_cons, List.take_zero, List.drop_succ_cons, List.drop_zero, Bool.false_eq_true, if_false, Nat.zero_add, Nat.reduceAdd]
    repeat (go_big_quiet_step (fail))
    refine wpQuiet_nil ?_
    refine wpC_nil ?_
    clear HFa hX1 f
    go_upto_region 6 with (fail)
    obtain ⟨LL, oL, hLM, hLL⟩ := HJ.out
    obtain ⟨v3, w6, a3, c3, hr, rfl, hrow3, c56⟩ := oL.join (HO2.out.1.below (belowN (Below.refl w5.heap.size w5) 1)) (Nat.le_trans HO1.out.2.1.size (Nat.le_trans HB5.out.size (Nat.le_refl _))) (fun k hk => by
      have h1 := (HO1.out.1.vb (g := k) (by rw [HLk.out]; exact hk)).2.1
      have h2 := HB4.out.size
      omega) (by
      have h1 : M.length ≤ E.length := by rw [← hLM, List.length_append]; omega
      have h2 := HS.out.2.2.2.2
      omega)
    rw [hLM, HM.out] at hr
    rw [hLM] at hrow3
    have HA := Lib.hid hr
    have hb26 : Below w2.heap.size w2 w6 := belowChg (HO1.out.2.1.trans ((HB5.out.trans ((belowN (Below.refl w5.heap.size w5) 1).mono HB5.out.size)).mono HO1.out.2.1.size)) c56 (Nat.le_trans HO1.out.2.1.size HB5.out.size) (fun k hk _ => (HO1.out.1.vb (g := k) (by rw [HLk.out]; exact hk)).1)
    have HB6 := Lib.hid (And.intro hb26 hrow3)
    clear oL hLM hLL hr hrow3 c56 hb26 HJ
    go_wp2_with (at_builtin; refine wpList_append_run rfl rfl HA.out ?_)
    refine (top_any _).mono ?_
    rintro e w7 ⟨rfl, b7⟩
    have HB7 := Lib.hid b7
    clear b7
    go_wp2_with fail
    refine (HFl.out w7 (HB6.out.1.trans (HB7.out.mono HB6.out.1.size))).mono ?_
    rintro e w8 ⟨v4, rfl, o4, b8⟩
    have hb68 := HB7.out.trans (b8.mono HB7.out.size)
    obtain ⟨a4, c4, rfl, hrow4⟩ := o4.row
    have HSm := Lib.hid (sameEntries (HB6.out.2.chg hb68) hrow4 (by have := HS.out.2.2.2.2; omega))
    have HB8 := Lib.hid (HS.out.2.2.1.trans ((HB6.out.1.trans (hb68.mono HB6.out.1.size)).mono HS.out.2.2.1.size))
    clear hb68 hrow4 o4 b8
    go_wp2_with fail
    refine HSm.out.mono ?_
    rintro e w9 ⟨r, rfl, hr, b9⟩
    obtain rfl : r = true := by simpa using hr
    have HB9 := Lib.hid (HB8.out.trans (b9.mono HB8.out.size))
    clear hr b9
    go_wp2_with fail
    refine (HV.out w9 HB9.out).mono ?_
    rintro e w10 ⟨rfl, b10⟩
    have HB10 := Lib.hid (HB9.out.trans (b10.mono HB9.out.size))
    clear b10
    go_wp2_with fail
    go_ret
    exact ⟨rfl, HB10.out⟩
  · have e1 : decide ((0 : Int) < (k : Int)) = true := decide_eq_true (by omega)
    have e1' : decide (0 < k) = true := decide_eq_true (by omega)
    rcases Nat.eq_zero_or_pos m with hm0 | hm0
    · have e2 : decide ((0 : Int) < (m : Int)) = false := decide_eq_false (by omega)
      have e2' : decide (0 < m) = false := decide_eq_false (by omega)
      have HJ := Lib.hid (show ∃ LL, EntsOut (w5.drewN 1) w2.heap.size (.slice a1 k c1) LL ∧ LL ++ M = E ∧ LL.length ≤ 200 from ⟨L, by rw [← HLk.out]; exact HO15.out.below (belowN (Below.refl _ _) 1), HLaw.out.2.2.1 (List.eq_nil_of_length_eq_zero (by rw [HM.out]; exact hm0)), by rw [HLk.out]; exact hLlen⟩)
      obtain ⟨j, rfl⟩ : ∃ j, k = j := ⟨_, rfl⟩
      clear hk0 hm0
      obtain ⟨X1, f, hX1, hf, hF⟩ := classOf (fun w' => w'.cell? ⟨w.heap.size, 0, none⟩ = some (.int .u64 t.1)) (w := w5.drew) HC5.out.1
      have HFa := Lib.hid (hF w5.drew HC5.out.1)
      clear hF hf
      go_upto_region 4 with (fail)
      refine wp_region_text ⟨[], [], 19⟩ (fun w' => ∃ x : X1, w' = f x) (by kernel_rfl) (by kernel_rfl) HFa.out ?_
      refine wpC_seg false (HFa.out) 19 0 _ _ (by rfl) (by rfl) ?_
      simp only [List.take_succ_cons, List.take_zero, List.drop_succ_cons, List.drop_zero, Bool.false_eq_true, if_false, Nat.zero_add, Nat.reduceAdd]
      repeat (go_big_quiet_step (fail))
      refine wpQuiet_nil ?_
      refine wpC_nil ?_
      clear HFa hX1 f
      go_upto_region 6 with (fail)
      obtain ⟨LL, oL, hLM, hLL⟩ := HJ.out
      obtain ⟨v3, w6, a3, c3, hr, rfl, hrow3, c56⟩ := oL.join (HO2.out.1.below (belowN (Below.refl w5.heap.size w5) 1)) (Nat.le_trans HO1.out.2.1.size (Nat.le_trans HB5.out.size (Nat.le_refl _))) (fun k hk => by
        have h1 := (HO1.out.1.vb (g := k) (by rw [HLk.out]; exact hk)).2.1
        have h2 := HB4.out.size
        omega) (by
        have h1 : M.length ≤ E.length := by rw [← hLM, List.length_append]; omega
        have h2 := HS.out.2.2.2.2
        omega)
      rw [hLM, HM.out] at hr
      rw [hLM] at hrow3
      have HA := Lib.hid hr
      have hb26 : Below w2.heap.size w2 w6 := belowChg (HO1.out.2.1.trans ((HB5.out.trans ((belowN (Below.refl w5.heap.size w5) 1).mono HB5.out.size)).mono HO1.out.2.1.size)) c56 (Nat.le_trans HO1.out.2.1.size HB5.out.size) (fun k hk _ => (HO1.out.1.vb (g := k) (by rw [HLk.out]; exact hk)).1)
      have HB6 := Lib.hid (And.intro hb26 hrow3)
      clear oL hLM hLL hr hrow3 c56 hb26 HJ
      go_wp2_with (at_builtin; refine wpList_append_run rfl rfl HA.out ?_)
      refine (top_any _).mono ?_
      rintro e w7 ⟨rfl, b7⟩
      have HB7 := Lib.hid b7
      clear b7
      go_wp2_with fail
      refine (HFl.out w7 (HB6.out.1.trans (HB7.out.mono HB6.out.1.size))).mono ?_
      rintro e w8 ⟨v4, rfl, o4, b8⟩
      have hb68 := HB7.out.trans (b8.mono HB7.out.size)
      obtain ⟨a4, c4, rfl, hrow4⟩ := o4.row
      have HSm := Lib.hid (sameEntries (HB6.out.2.chg hb68) hrow4 (by have := HS.out.2.2.2.2; omega))
      have HB8 := Lib.hid (HS.out.2.2.1.trans ((HB6.out.1.trans (hb68.mono HB6.out.1.size)).mono HS.out.2.2.1.size))
      clear hb68 hrow4 o4 b8
      go_wp2_with fail
      refine HSm.out.mono ?_
      rintro e w9 ⟨r, rfl, hr, b9⟩
      obtain rfl : r = true := by simpa using hr
      have HB9 := Lib.hid (HB8.out.trans (b9.mono HB8.out.size))
      clear hr b9
      go_wp2_with fail
      refine (HV.out w9 HB9.out).mono ?_
      rintro e w10 ⟨rfl, b10⟩
      have HB10 := Lib.hid (HB9.out.trans (b10.mono HB9.out.size))
      clear b10
      go_wp2_with fail
      go_ret
      exact ⟨rfl, HB10.out⟩
    · have e2 : decide ((0 : Int) < (m : Int)) = true := decide_eq_true (by omega)
      have e2' : decide (0 < m) = true := decide_eq_true (by omega)
      obtain ⟨j, rfl⟩ : ∃ j, k = j + 1 := ⟨k - 1, by omega⟩
      obtain ⟨b, o, x, e, rfl, ⟨g0, g1, _⟩, he, hxi, _⟩ := HRow.out.get (i := j) (by rw [HLk.out]; omega)
      obtain ⟨xm, xq, xv⟩ := x
      dsimp only at g0 g1
      have hlt1 : j < L.length := by rw [HLk.out]; omega
      have e5 : IntKind.i64.wrap (((j + 1 : Nat) : Int) - 1) = (j : Int) := by rw [show (((j + 1 : Nat) : Int) - 1) = (j : Int) by omega]; exact IntWalk.i64_in _ (by omega)
      have e6 : IntKind.i64.wrap ((j : Int) + 1 - 1) = (j : Int) := by rw [show ((j : Int) + 1 - 1) = (j : Int) by omega]; exact IntWalk.i64_in _ (by omega)
      have e7 : (j : Int) < (j : Int) + 1 := by omega
      have hMne : M ≠ [] := fun e => by rw [e] at HM; have := HM.out; simp at this; omega
      have hcap : j + 1 ≤ c1 := by rw [← HLk.out]; assumption
      by_cases hid : xm = t.1 ∧ xq = t.2
      · have HJ := Lib.hid (show ∃ LL, EntsOut (w5.drewN 1) w2.heap.size (.slice (some ⟨b, o, none⟩) j c1) LL ∧ LL ++ M = E ∧ LL.length ≤ 200 from ⟨L.take j, by
          have := HO15.out.below (belowN (Below.refl w5.heap.size w5) 1)
          rw [HLk.out] at this
          exact this.take (by omega), HLaw.out.1 j e HLk.out he (by rw [← hxi]; exact Prod.ext hid.1 hid.2) hMne, by rw [List.length_take]; omega⟩)
        obtain ⟨rfl, rfl⟩ := hid
        clear hm0 hMne hxi he hk0
        obtain ⟨X1, f, hX1, hf, hF⟩ := classOf (fun w' => (w'.cell? ⟨w.heap.size, 0, none⟩ = some (.int .u64 t.1) ∧ w'.cell? ⟨w.heap.size, 1, none⟩ = some (.int .u64 t.2)) ∧ w'.cell? ⟨b, o + j * 3, none⟩ = some (.int .u64 t.1) ∧ w'.cell? ⟨b, o + j * 3 + 1, none⟩ = some (.int .u64 t.2)) (w := w5.drew) ⟨HC5.out, g0, g1⟩
        have f1 := fun x => (hf x).1.1
        have f2 := fun x => (hf x).1.2
        have f3 := fun x => (hf x).2.1
        have f4 := fun x => (hf x).2.2
        have HFa := Lib.hid (hF w5.drew ⟨HC5.out, g0, g1⟩)
        clear hF hf g0 g1
        go_upto_region 4 with (fail)
        refine wp_region_text ⟨[], [], 19⟩ (fun w' => ∃ x : X1, w' = f x) (by kernel_rfl) (by kernel_rfl) HFa.out ?_
        refine wpC_seg false (HFa.out) 19 0 _ _ (by rfl) (by rfl) ?_
        simp only [List.take_succ_cons, List.take_zero, List.drop_succ_cons, List.drop_zero, Bool.false_eq_true, if_false, Nat.zero_add, Nat.reduceAdd]
        repeat (go_big_quiet_step (fail))
        refine wpQuiet_nil ?_
        refine wpC_nil ?_
        clear f1 f2 f3 f4 HFa hX1 f
        go_upto_region 6 with (fail)
        obtain ⟨LL, oL, hLM, hLL⟩ := HJ.out
        obtain ⟨v3, w6, a3, c3, hr, rfl, hrow3, c56⟩ := oL.join (HO2.out.1.below (belowN (Below.refl w5.heap.size w5) 1)) (Nat.le_trans HO1.out.2.1.size (Nat.le_trans HB5.out.size (Nat.le_refl _))) (fun k hk => by
          have h1 := (HO1.out.1.vb (g := k) (by cases hk; rfl)).2.1
          have h2 := HB4.out.size
          omega) (by
          have h1 : M.length ≤ E.length := by rw [← hLM, List.length_append]; omega
          have h2 := HS.out.2.2.2.2
          omega)
        rw [hLM, HM.out] at hr
        rw [hLM] at hrow3
        have HA := Lib.hid hr
        have hb26 : Below w2.heap.size w2 w6 := belowChg (HO1.out.2.1.trans ((HB5.out.trans ((belowN (Below.refl w5.heap.size w5) 1).mono HB5.out.size)).mono HO1.out.2.1.size)) c56 (Nat.le_trans HO1.out.2.1.size HB5.out.size) (fun k hk _ => (HO1.out.1.vb (g := k) (by cases hk; rfl)).1)
        have HB6 := Lib.hid (And.intro hb26 hrow3)
        clear oL hLM hLL hr hrow3 c56 hb26 HJ
        go_wp2_with (at_builtin; refine wpList_append_run rfl rfl HA.out ?_)
        refine (top_any _).mono ?_
        rintro e w7 ⟨rfl, b7⟩
        have HB7 := Lib.hid b7
        clear b7
        go_wp2_with fail
        refine (HFl.out w7 (HB6.out.1.trans (HB7.out.mono HB6.out.1.size))).mono ?_
        rintro e w8 ⟨v4, rfl, o4, b8⟩
        have hb68 := HB7.out.trans (b8.mono HB7.out.size)
        obtain ⟨a4, c4, rfl, hrow4⟩ := o4.row
        have HSm := Lib.hid (sameEntries (HB6.out.2.chg hb68) hrow4 (by have := HS.out.2.2.2.2; omega))
        have HB8 := Lib.hid (HS.out.2.2.1.trans ((HB6.out.1.trans (hb68.mono HB6.out.1.size)).mono HS.out.2.2.1.size))
        clear hb68 hrow4 o4 b8
        go_wp2_with fail
        refine HSm.out.mono ?_
        rintro e w9 ⟨r, rfl, hr, b9⟩
        obtain rfl : r = true := by simpa using hr
        have HB9 := Lib.hid (HB8.out.trans (b9.mono HB8.out.size))
        clear hr b9
        go_wp2_with fail
        refine (HV.out w9 HB9.out).mono ?_
        rintro e w10 ⟨rfl, b10⟩
        have HB10 := Lib.hid (HB9.out.trans (b10.mono HB9.out.size))
        clear b10
        go_wp2_with fail
        go_ret
        exact ⟨rfl, HB10.out⟩
      · have HJ := Lib.hid (show ∃ LL, EntsOut (w5.drewN 1) w2.heap.size (.slice (some ⟨b, o, none⟩) (j + 1) c1) LL ∧ LL ++ M = E ∧ LL.length ≤ 200 from ⟨L, by
          have := HO15.out.below (belowN (Below.refl w5.heap.size w5) 1)
          rw [HLk.out] at this
          exact this, HLaw.out.2.2.2 j e HLk.out he (fun h => hid (by rw [← hxi] at h; exact ⟨congrArg Prod.fst h, congrArg Prod.snd h⟩)), by rw [HLk.out]; exact hLlen⟩)
        rcases Decidable.em (xm = t.1) with h1 | h1
        · have e9 : ((xq : Int) == (t.2 : Int)) = false := by rw [beq_eq_false_iff_ne]; intro h; exact hid ⟨h1, by omega⟩
          subst h1
          clear hm0 hMne hxi he hk0 hid
          obtain ⟨X1, f, hX1, hf, hF⟩ := classOf (fun w' => (w'.cell? ⟨w.heap.size, 0, none⟩ = some (.int .u64 t.1) ∧ w'.cell? ⟨w.heap.size, 1, none⟩ = some (.int .u64 t.2)) ∧ w'.cell? ⟨b, o + j * 3, none⟩ = some (.int .u64 t.1) ∧ w'.cell? ⟨b, o + j * 3 + 1, none⟩ = some (.int .u64 xq)) (w := w5.drew) ⟨HC5.out, g0, g1⟩
          have f1 := fun x => (hf x).1.1
          have f2 := fun x => (hf x).1.2
          have f3 := fun x => (hf x).2.1
          have f4 := fun x => (hf x).2.2
          have HFa := Lib.hid (hF w5.drew ⟨HC5.out, g0, g1⟩)
          clear hF hf g0 g1
          go_upto_region 4 with (fail)
          refine wp_region_text ⟨[], [], 19⟩ (fun w' => ∃ x : X1, w' = f x) (by kernel_rfl) (by kernel_rfl) HFa.out ?_
          refine wpC_seg false (HFa.out) 19 0 _ _ (by rfl) (by rfl) ?_
          simp only [List.take_succ_cons, List.take_zero, List.drop_succ_cons, List.drop_zero, Bool.false_eq_true, if_false, Nat.zero_add, Nat.reduceAdd]
          repeat (go_big_quiet_step (fail))
          refine wpQuiet_nil ?_
          refine wpC_nil ?_
          clear f1 f2 f3 f4 HFa hX1 f
          go_upto_region 6 with (fail)
          obtain ⟨LL, oL, hLM, hLL⟩ := HJ.out
          obtain ⟨v3, w6, a3, c3, hr, rfl, hrow3, c56⟩ := oL.join (HO2.out.1.below (belowN (Below.refl w5.heap.size w5) 1)) (Nat.le_trans HO1.out.2.1.size (Nat.le_trans HB5.out.size (Nat.le_refl _))) (fun k hk => by
            have h1 := (HO1.out.1.vb (g := k) (by rw [HLk.out]; exact hk)).2.1
            have h2 := HB4.out.size
            omega) (by
            have h1 : M.length ≤ E.length := by rw [← hLM, List.length_append]; omega
            have h2 := HS.out.2.2.2.2
            omega)
          rw [hLM, HM.out] at hr
          rw [hLM] at hrow3
          have HA := Lib.hid hr
          have hb26 : Below w2.heap.size w2 w6 := belowChg (HO1.out.2.1.trans ((HB5.out.trans ((belowN (Below.refl w5.heap.size w5) 1).mono HB5.out.size)).mono HO1.out.2.1.size)) c56 (Nat.le_trans HO1.out.2.1.size HB5.out.size) (fun k hk _ => (HO1.out.1.vb (g := k) (by rw [HLk.out]; exact hk)).1)
          have HB6 := Lib.hid (And.intro hb26 hrow3)
          clear oL hLM hLL hr hrow3 c56 hb26 HJ
          go_wp2_with (at_builtin; refine wpList_append_run rfl rfl HA.out ?_)
          refine (top_any _).mono ?_
          rintro e w7 ⟨rfl, b7⟩
          have HB7 := Lib.hid b7
          clear b7
          go_wp2_with fail
          refine (HFl.out w7 (HB6.out.1.trans (HB7.out.mono HB6.out.1.size))).mono ?_
          rintro e w8 ⟨v4, rfl, o4, b8⟩
          have hb68 := HB7.out.trans (b8.mono HB7.out.size)
          obtain ⟨a4, c4, rfl, hrow4⟩ := o4.row
          have HSm := Lib.hid (sameEntries (HB6.out.2.chg hb68) hrow4 (by have := HS.out.2.2.2.2; omega))
          have HB8 := Lib.hid (HS.out.2.2.1.trans ((HB6.out.1.trans (hb68.mono HB6.out.1.size)).mono HS.out.2.2.1.size))
          clear hb68 hrow4 o4 b8
          go_wp2_with fail
          refine HSm.out.mono ?_
          rintro e w9 ⟨r, rfl, hr, b9⟩
          obtain rfl : r = true := by simpa using hr
          have HB9 := Lib.hid (HB8.out.trans (b9.mono HB8.out.size))
          clear hr b9
          go_wp2_with fail
          refine (HV.out w9 HB9.out).mono ?_
          rintro e w10 ⟨rfl, b10⟩
          have HB10 := Lib.hid (HB9.out.trans (b10.mono HB9.out.size))
          clear b10
          go_wp2_with fail
          go_ret
          exact ⟨rfl, HB10.out⟩
        · have e8 : ((xm : Int) == (t.1 : Int)) = false := by rw [beq_eq_false_iff_ne]; intro h; exact h1 (by omega)
          clear hm0 hMne hxi he hk0 hid h1
          obtain ⟨X1, f, hX1, hf, hF⟩ := classOf (fun w' => (w'.cell? ⟨w.heap.size, 0, none⟩ = some (.int .u64 t.1) ∧ w'.cell? ⟨w.heap.size, 1, none⟩ = some (.int .u64 t.2)) ∧ w'.cell? ⟨b, o + j * 3, none⟩ = some (.int .u64 xm) ∧ w'.cell? ⟨b, o + j * 3 + 1, none⟩ = some (.int .u64 xq)) (w := w5.drew) ⟨HC5.out, g0, g1⟩
          have f1 := fun x => (hf x).1.1
          have f2 := fun x => (hf x).1.2
          have f3 := fun x => (hf x).2.1
          have f4 := fun x => (hf x).2.2
          have HFa := Lib.hid (hF w5.drew ⟨HC5.out, g0, g1⟩)
          clear hF hf g0 g1
          go_upto_region 4 with (fail)
          refine wp_region_text ⟨[], [], 19⟩ (fun w' => ∃ x : X1, w' = f x) (by kernel_rfl) (by kernel_rfl) HFa.out ?_
          refine wpC_seg false (HFa.out) 19 0 _ _ (by rfl) (by rfl) ?_
          simp only [List.take_succ_cons, List.take_zero, List.drop_succ_cons, List.drop_zero, Bool.false_eq_true, if_false, Nat.zero_add, Nat.reduceAdd]
          repeat (go_big_quiet_step (fail))
          refine wpQuiet_nil ?_
          refine wpC_nil ?_
          clear f1 f2 f3 f4 HFa hX1 f
          go_upto_region 6 with (fail)
          obtain ⟨LL, oL, hLM, hLL⟩ := HJ.out
          obtain ⟨v3, w6, a3, c3, hr, rfl, hrow3, c56⟩ := oL.join (HO2.out.1.below (belowN (Below.refl w5.heap.size w5) 1)) (Nat.le_trans HO1.out.2.1.size (Nat.le_trans HB5.out.size (Nat.le_refl _))) (fun k hk => by
            have h1 := (HO1.out.1.vb (g := k) (by rw [HLk.out]; exact hk)).2.1
            have h2 := HB4.out.size
            omega) (by
            have h1 : M.length ≤ E.length := by rw [← hLM, List.length_append]; omega
            have h2 := HS.out.2.2.2.2
            omega)
          rw [hLM, HM.out] at hr
          rw [hLM] at hrow3
          have HA := Lib.hid hr
          have hb26 : Below w2.heap.size w2 w6 := belowChg (HO1.out.2.1.trans ((HB5.out.trans ((belowN (Below.refl w5.heap.size w5) 1).mono HB5.out.size)).mono HO1.out.2.1.size)) c56 (Nat.le_trans HO1.out.2.1.size HB5.out.size) (fun k hk _ => (HO1.out.1.vb (g := k) (by rw [HLk.out]; exact hk)).1)
          have HB6 := Lib.hid (And.intro hb26 hrow3)
          clear oL hLM hLL hr hrow3 c56 hb26 HJ
          go_wp2_with (at_builtin; refine wpList_append_run rfl rfl HA.out ?_)
          refine (top_any _).mono ?_
          rintro e w7 ⟨rfl, b7⟩
          have HB7 := Lib.hid b7
          clear b7
          go_wp2_with fail
          refine (HFl.out w7 (HB6.out.1.trans (HB7.out.mono HB6.out.1.size))).mono ?_
          rintro e w8 ⟨v4, rfl, o4, b8⟩
          have hb68 := HB7.out.trans (b8.mono HB7.out.size)
          obtain ⟨a4, c4, rfl, hrow4⟩ := o4.row
          have HSm := Lib.hid (sameEntries (HB6.out.2.chg hb68) hrow4 (by have := HS.out.2.2.2.2; omega))
          have HB8 := Lib.hid (HS.out.2.2.1.trans ((HB6.out.1.trans (hb68.mono HB6.out.1.size)).mono HS.out.2.2.1.size))
          clear hb68 hrow4 o4 b8
          go_wp2_with fail
          refine HSm.out.mono ?_
          rintro e w9 ⟨r, rfl, hr, b9⟩
          obtain rfl : r = true := by simpa using hr
          have HB9 := Lib.hid (HB8.out.trans (b9.mono HB8.out.size))
          clear hr b9
          go_wp2_with fail
          refine (HV.out w9 HB9.out).mono ?_
          rintro e w10 ⟨rfl, b10⟩
          have HB10 := Lib.hid (HB9.out.trans (b10.mono HB9.out.size))
          clear b10
          go_wp2_with fail
          go_ret
          exact ⟨rfl, HB10.out⟩
end Go.Proofs.YtbjpfnafhhbmaaaDoor.Sad

/- StreamRises' walk. -/
namespace Go.Proofs.YtbjpfnafhhbmaaaDoor.Sad
open Go.Proofs.YtbjpfnafhhbmaaaDoor
set_option linter.unusedVariables false
set_option linter.unusedSimpArgs false
open Go.RowKit RT Go.Shelf
theorem next_yes {l : Nat × Nat} (hl : l.1 < 18446744073709551616 ∧ l.2 < 18446744073709551616) {now : Int} (hn : now ≤ 9223372036854775807) (h : (nextN l.1 l.2 now).2 = true) :
    lessN l (nextN l.1 l.2 now).1 = true ∧ (nextN l.1 l.2 now).1.1 < 18446744073709551616 ∧ (nextN l.1 l.2 now).1.2 < 18446744073709551616 := by
  unfold nextN at h ⊢
  split
  · next h1 => exact ⟨h1, by dsimp only; omega, by dsimp only; omega⟩
  · split
    · refine ⟨?_, by dsimp only; omega, by dsimp only; omega⟩
      show lessN l (l.1, l.2 + 1) = true
      unfold lessN
      rw [decide_eq_true_eq]
      exact .inr ⟨rfl, Nat.lt_succ_self _⟩
    · split
      · refine ⟨?_, by dsimp only; omega, by dsimp only; omega⟩
        show lessN l (l.1 + 1, 0) = true
        unfold lessN
        rw [decide_eq_true_eq]
        exact .inl (Nat.lt_succ_self _)
      · next h1 h2 h3 => rw [if_neg h1, if_neg h2, if_neg h3] at h; cases h
theorem next_no {l : Nat × Nat} (hl : l.1 < 18446744073709551616 ∧ l.2 < 18446744073709551616) {now : Int} (h : (nextN l.1 l.2 now).2 = false) : l.1 = 18446744073709551615 ∧ l.2 = 18446744073709551615 := by
  unfold nextN at h
  split at h
  · cases h
  · split at h
    · cases h
    · split at h
      · cases h
      · omega
theorem one_row {w w' : World} (h : w' = w.alloc (.cells #[.string ⟨#[]⟩, .string ⟨#[]⟩] 59)) : PairRow w' (some ⟨w.heap.size, 0, none⟩) 1 1 [(⟨#[]⟩, ⟨#[]⟩)] := by
  have hh : w'.heap[w.heap.size]? = some (.cells #[.string ⟨#[]⟩, .string ⟨#[]⟩] 59 (0, 0)) := by rw [h]; exact heap_new _ _
  refine ⟨rfl, by omega, .inr ⟨_, _, rfl, fun i hi => ?_⟩⟩
  obtain rfl : i = 0 := by omega
  exact ⟨cell_in hh rfl, cell_in hh rfl⟩
set_option maxHeartbeats 6400000 in
set_option maxRecDepth 100000 in
theorem streamRises_walk {w : World} (hl : Laid w) {a : Option Addr} {n c : Nat} {Q : List AskN} (h : AskRow w a n c Q) (hn : n ≤ 281474976710656) {now : Int} (hn1 : -9223372036854775808 ≤ now) (hn2 : now ≤ 9223372036854775807) :
    Calls Tryd.prog 8 #[.slice a n c, .int .i64 now] w fun e w' => e = .returned (.bool true) ∧ Below w.heap.size w w' := by
  have HP := Lib.hid (played_any h hn)
  have HV := Lib.hid (fun w' (hb : Below w.heap.size w w') => lives_any (hl.below hb))
  have HLn := Lib.hid (playP_len Q 200)
  have HNow := Lib.hid (And.intro hn1 hn2)
  clear hl h hn hn1 hn2
  go_enter Tryd.func8, Tryd.ntmps8
  go_wp2_with fail
  refine HP.out.mono ?_
  rintro e w2 ⟨s, F, rfl, hS, hF, b2⟩
  obtain ⟨E, hE⟩ : ∃ E, (playP Q 200).1 = E := ⟨_, rfl⟩
  obtain ⟨l, hl⟩ : ∃ l, (playP Q 200).2 = l := ⟨_, rfl⟩
  rw [hE, hl] at hS
  have hln := HLn.out
  rw [hE] at hln
  have HS := Lib.hid (And.intro hS (And.intro b2 (And.intro hln hF)))
  clear hS hF b2 hE hl HP HLn
  unfold ptrV at *
  go_wp2_with fail
  refine (top_any _).mono ?_
  rintro e w3 ⟨rfl, b3⟩
  have HR := range_full (HS.out.1.below b3) HS.out.2.2.1
  unfold ptrV at HR
  have HR2 := Lib.hid HR
  have HB3 := Lib.hid b3
  clear HR b3
  go_wp2_with fail
  refine HR2.out.mono ?_
  rintro e w4 ⟨v, rfl, o4, b4⟩
  obtain ⟨av, cv, rfl, hrow⟩ := o4.row
  have HB4 := Lib.hid (HB3.out.trans (b4.mono HB3.out.size))
  have hS4 := HS.out.1.below HB4.out
  have hlen := stm_len hS4
  unfold ptrV at hlen
  have HLen := Lib.hid hlen
  have HS4 := Lib.hid (And.intro hS4 hrow)
  have HRise := Lib.hid hS4.rise
  obtain ⟨ne, hne⟩ : ∃ ne, E.length = ne := ⟨_, rfl⟩
  have HNe := Lib.hid hne
  rw [hne] at HLen hln ⊢
  clear b4 hS4 hlen hrow o4 hne HR2
  go_wp2_with fail
  refine HLen.out.mono ?_
  rintro e w' ⟨rfl, hww⟩
  rw [hww]
  clear hww w'
  go_wp2_with fail
  go_loopw [7] (fun i wr => ∃ k : Nat, k ≤ ne ∧ i = .int .i64 k ∧ Hid (Below w4.heap.size w4 wr)) (fun i _ => ne - (intOf i).toNat)
  case atStart => exact ⟨0, Nat.zero_le _, rfl, Lib.hid (Below.refl _ _)⟩
  case round =>
    obtain ⟨k, hk, rfl, hI⟩ := hrel
    by_cases hlt : k < ne
    · rcases Nat.eq_zero_or_pos k with hk0 | hk0
      · have e1 : decide ((0 : Int) < (k : Int)) = false := decide_eq_false (by omega)
        have e1' : decide (0 < k) = false := decide_eq_false (by omega)
        obtain ⟨X1, f, hX1, hf, hF⟩ := classOf (fun w' => Below w4.heap.size w4 w') (w := wr.drew) (belowN hI.out 1)
        have HFa := Lib.hid (hF wr.drew (belowN hI.out 1))
        clear hF hf hk0
        go_upto_region 8 with (fail)
        refine wp_region_text ⟨[], [], 50⟩ (fun w' => ∃ x : X1, w' = f x) (by kernel_rfl) (by kernel_rfl) HFa.out ?_
        refine wpC_seg false (HFa.out) 50 0 _ _ (by rfl) (by rfl) ?_
        simp only [List.take_succ_cons, List.take_zero, List.drop_succ_cons, List.drop_zero, Bool.false_eq_true, if_false, Nat.zero_add, Nat.reduceAdd]
        repeat (go_big_quiet_step (fail))
        refine wpQuiet_nil ?_
        refine wpC_nil ?_
        clear HFa hX1 f
        go_wp2_with fail
        go_roundw
        case rel => exact ⟨k + 1, by omega, by go_num, Lib.hid (belowN hI.out 1)⟩
        case measure => simp [intOf]; omega
      · obtain ⟨j, rfl⟩ : ∃ j, k = j + 1 := ⟨k - 1, by omega⟩
        have hr := HS4.out.2.chg (belowN hI.out 1)
        have hl1 := HNe.out
        obtain ⟨b, o, x, e, rfl, ⟨x0, x1, _⟩, hxe, hxi, _⟩ := hr.get (i := j) (by omega)
        obtain ⟨b', o', y, e', hb', ⟨y0, y1, _⟩, hye, hyi, _⟩ := hr.get (i := j + 1) (by omega)
        cases hb'
        obtain ⟨xm, xq, xv⟩ := x
        obtain ⟨ym, yq, yv⟩ := y
        dsimp only at x0 x1 y0 y1
        have hless : lessN (xm, xq) (ym, yq) = true := by
          have h1 : idT2 (xm, xq, xv) = (xm, xq) := rfl
          have h2 : idT2 (ym, yq, yv) = (ym, yq) := rfl
          rw [← h1, ← h2, hxi, hyi]
          obtain ⟨g1, rfl⟩ := List.getElem?_eq_some_iff.1 hxe
          obtain ⟨g2, rfl⟩ := List.getElem?_eq_some_iff.1 hye
          exact List.pairwise_iff_getElem.1 HRise.out j (j + 1) g1 g2 (by omega)
        simp only [lessN, decide_eq_true_eq] at hless
        have HLs := Lib.hid hless
        have e1 : decide ((0 : Int) < ((j + 1 : Nat) : Int)) = true := decide_eq_true (by omega)
        have e2 : decide ((ym : Int) < (xm : Int)) = false := decide_eq_false (by omega)
        have e2' : decide (ym < xm) = false := decide_eq_false (by omega)
        have e5 : IntKind.i64.wrap (((j + 1 : Nat) : Int) - 1) = (j : Int) := by rw [show (((j + 1 : Nat) : Int) - 1) = (j : Int) by omega]; exact IntWalk.i64_in _ (by omega)
        have e6 : IntKind.i64.wrap ((j : Int) + 1 - 1) = (j : Int) := by rw [show ((j : Int) + 1 - 1) = (j : Int) by omega]; exact IntWalk.i64_in _ (by omega)
        clear hr hxe hxi hye hyi hless hk0 hl1
        rcases Nat.lt_or_ge xm ym with h1 | h1
        · have e3 : ((ym : Int) == (xm : Int)) = false := by rw [beq_eq_false_iff_ne]; omega
          clear h1
          obtain ⟨X1, f, hX1, hf, hF⟩ := classOf (fun w' => (w'.cell? ⟨b, o + j * 3, none⟩ = some (.int .u64 xm) ∧ w'.cell? ⟨b, o + j * 3 + 1, none⟩ = some (.int .u64 xq)) ∧ w'.cell? ⟨b, o + (j + 1) * 3, none⟩ = some (.int .u64 ym) ∧ w'.cell? ⟨b, o + (j + 1) * 3 + 1, none⟩ = some (.int .u64 yq)) (w := wr.drew) ⟨⟨x0, x1⟩, y0, y1⟩
          have f1 := fun x => (hf x).1.1
          have f2 := fun x => (hf x).1.2
          have f3 := fun x => (hf x).2.1
          have f4 := fun x => (hf x).2.2
          have HFa := Lib.hid (hF wr.drew ⟨⟨x0, x1⟩, y0, y1⟩)
          clear hF hf x0 x1 y0 y1
          go_upto_region 8 with (fail)
          refine wp_region_text ⟨[], [], 50⟩ (fun w' => ∃ x : X1, w' = f x) (by kernel_rfl) (by kernel_rfl) HFa.out ?_
          refine wpC_seg false (HFa.out) 50 0 _ _ (by rfl) (by rfl) ?_
          simp only [List.take_succ_cons, List.take_zero, List.drop_succ_cons, List.drop_zero, Bool.false_eq_true, if_false, Nat.zero_add, Nat.reduceAdd]
          repeat (go_big_quiet_step (fail))
          refine wpQuiet_nil ?_
          refine wpC_nil ?_
          clear HFa hX1 f f1 f2 f3 f4
          go_wp2_with fail
          go_roundw
          case rel => exact ⟨j + 1 + 1, by omega, by go_num, Lib.hid (belowN hI.out 1)⟩
          case measure => simp [intOf]; omega
        · obtain ⟨rfl, h2⟩ : xm = ym ∧ xq < yq := by have := HLs.out; omega
          have e4 : decide ((yq : Int) ≤ (xq : Int)) = false := decide_eq_false (by omega)
          have e4' : decide (yq ≤ xq) = false := decide_eq_false (by omega)
          clear h1 h2
          obtain ⟨X1, f, hX1, hf, hF⟩ := classOf (fun w' => (w'.cell? ⟨b, o + j * 3, none⟩ = some (.int .u64 xm) ∧ w'.cell? ⟨b, o + j * 3 + 1, none⟩ = some (.int .u64 xq)) ∧ w'.cell? ⟨b, o + (j + 1) * 3, none⟩ = some (.int .u64 xm) ∧ w'.cell? ⟨b, o + (j + 1) * 3 + 1, none⟩ = some (.int .u64 yq)) (w := wr.drew) ⟨⟨x0, x1⟩, y0, y1⟩
          have f1 := fun x => (hf x).1.1
          have f2 := fun x => (hf x).1.2
          have f3 := fun x => (hf x).2.1
          have f4 := fun x => (hf x).2.2
          have HFa := Lib.hid (hF wr.drew ⟨⟨x0, x1⟩, y0, y1⟩)
          clear hF hf x0 x1 y0 y1
          go_upto_region 8 with (fail)
          refine wp_region_text ⟨[], [], 50⟩ (fun w' => ∃ x : X1, w' = f x) (by kernel_rfl) (by kernel_rfl) HFa.out ?_
          refine wpC_seg false (HFa.out) 50 0 _ _ (by rfl) (by rfl) ?_
          simp only [List.take_succ_cons, List.take_zero, List.drop_succ_cons, List.drop_zero, Bool.false_eq_true, if_false, Nat.zero_add, Nat.reduceAdd]
          repeat (go_big_quiet_step (fail))
          refine wpQuiet_nil ?_
          refine wpC_nil ?_
          clear HFa hX1 f f1 f2 f3 f4
          go_wp2_with fail
          go_roundw
          case rel => exact ⟨j + 1 + 1, by omega, by go_num, Lib.hid (belowN hI.out 1)⟩
          case measure => simp [intOf]; omega
    · obtain rfl : ne = k := by omega
      have hB := HB4.out.trans (hI.out.mono HB4.out.size)
      have hSr := HS.out.1.below hB
      have hlen := stm_len hSr
      unfold ptrV at hlen
      rw [HNe.out] at hlen
      have HLr := Lib.hid hlen
      have HNx := stm_next hSr HNow.out.1 HNow.out.2
      have hyes := fun h => next_yes hSr.lt64.1 HNow.out.2 (now := now) h
      have hno := fun h => next_no hSr.lt64.1 (now := now) h
      obtain ⟨⟨⟨im, iq⟩, ok⟩, hN⟩ : ∃ N, nextN l.1 l.2 now = N := ⟨_, rfl⟩
      rw [hN] at HNx hyes hno
      unfold ptrV at HNx
      dsimp only at HNx hyes hno
      have HNx2 := Lib.hid HNx
      have HY := Lib.hid (And.intro hyes hno)
      have HBr := Lib.hid (And.intro hB hSr)
      clear hB hSr hlen HNx hyes hno hN
      go_wp2_with fail
      refine HLr.out.mono ?_
      rintro e w' ⟨rfl, hww⟩
      rw [hww]
      clear hww w'
      go_wp2_with fail
      refine HNx2.out.mono ?_
      rintro e w5 ⟨rfl, b5⟩
      have HB5 := Lib.hid b5
      clear b5
      go_upto_region 12 with (fail)
      obtain ⟨w6, hw6⟩ : ∃ w6, w6 = w5.alloc (.cells #[.int .u64 im, .int .u64 iq] 24) := ⟨_, rfl⟩
      rw [← hw6]
      have h66 : w6.heap[w5.heap.size]? = some (.cells #[.int .u64 im, .int .u64 iq] 24 (0, 0)) := by rw [hw6]; exact heap_new _ _
      have b26 : Below w2.heap.size w2 w6 := HBr.out.1.trans ((HB5.out.trans ((show Below w5.heap.size w5 w6 by rw [hw6]; exact (Below.refl _ _).alloc (Nat.le_refl _) _).mono HB5.out.size)).mono HBr.out.1.size)
      have HB6 := Lib.hid (And.intro b26 h66)
      have HSz := Lib.hid (Nat.le_trans HBr.out.1.size HB5.out.size)
      clear hw6 h66 b26
      cases ok
      case' false =>
        have HLa := stm_last (HS.out.1.below HB6.out.1)
        have h1 := HY.out.2 rfl
        obtain ⟨lm, lq⟩ := l
        obtain ⟨rfl, rfl⟩ := h1
        unfold ptrV at HLa
        have HLa2 := Lib.hid HLa
        clear HLa HY HBr HNx2
        go_wp2_with fail
        refine HLa2.out.mono ?_
        rintro e w7 ⟨rfl, b7⟩
        have HB7 := Lib.hid (HB6.out.1.trans (b7.mono HB6.out.1.size))
        clear b7
        go_wp2_with fail
        refine (top_any _).mono ?_
        rintro e w8 ⟨rfl, b8⟩
        have HB8 := Lib.hid (HB7.out.trans (b8.mono HB7.out.size))
        clear b8
        go_wp2_with fail
        refine (HV.out w8 (HS.out.2.1.trans (HB8.out.mono HS.out.2.1.size))).mono ?_
        rintro e w9 ⟨rfl, b9⟩
        have HB9 := Lib.hid (HB8.out.trans (b9.mono HB8.out.size))
        clear b9
        go_wp2_with fail
        go_ret
        exact ⟨rfl, HS.out.2.1.trans (HB9.out.mono HS.out.2.1.size)⟩
      case' true =>
        obtain ⟨hless, him, hiq⟩ := HY.out.1 rfl
        have y0 := cell_in HB6.out.2 (i := 0) rfl
        have y1 := cell_in HB6.out.2 (i := 1) rfl
        have HId := Lib.hid (And.intro hless (And.intro him hiq))
        clear HY HBr HNx2 hless him hiq
        go_wp2_with fail
        obtain ⟨w7, hw7⟩ : ∃ w7, w7 = w6.alloc (.cells #[.string ⟨#[]⟩, .string ⟨#[]⟩] 59) := ⟨_, rfl⟩
        rw [← hw7]
        have hp7 := one_row hw7
        have b67 : Below w6.heap.size w6 w7 := by rw [hw7]; exact (Below.refl _ _).alloc (Nat.le_refl _) _
        have b27 := HB6.out.1.trans (b67.mono HB6.out.1.size)
        have HA := stm_add (HS.out.1.below b27) hp7 (by omega) HId.out.2.1 HId.out.2.2 (by omega) (by decide) HId.out.1 (by rw [HNe.out]; omega)
        unfold ptrV at HA
        have HA2 := Lib.hid HA
        have HB7 := Lib.hid (And.intro b27 ((b67.block _ (heap_lt HB6.out.2)).trans HB6.out.2))
        clear hw7 hp7 b67 b27 HA y0 y1
        refine HA2.out.mono ?_
        rintro e w8 ⟨rfl, F', h8, fr8, c8⟩
        have hFlt := HS.out.1.lt
        have h88 := c8.keep HB7.out.2 fun hk => by have h1 := hFlt _ hk; have h2 := HSz.out; omega
        have hb08 : Below w.heap.size w w8 := belowChg (HS.out.2.1.trans (HB7.out.1.mono HS.out.2.1.size)) c8 (Nat.le_trans HS.out.2.1.size HB7.out.1.size) fun k hk _ => HS.out.2.2.2 k hk
        have HC := Lib.hid (show ∀ w', Below w8.heap.size w8 w' → w'.cell? ⟨w5.heap.size, 0, none⟩ = some (.int .u64 im) ∧ w'.cell? ⟨w5.heap.size, 1, none⟩ = some (.int .u64 iq) from fun w' hb => by
          have e1 := (hb.block _ (heap_lt h88)).trans h88
          exact ⟨cell_in e1 rfl, cell_in e1 rfl⟩)
        have HL8 := fun w' (hb : Below w8.heap.size w8 w') => stm_len (h8.below hb)
        have HLa := fun w' (hb : Below w8.heap.size w8 w') => stm_last (h8.below hb)
        rw [List.length_append, HNe.out, List.length_singleton] at HL8
        unfold ptrV at HL8 HLa
        have HL82 := Lib.hid HL8
        have HLa2 := Lib.hid HLa
        have HB08 := Lib.hid hb08
        have c0 := HC.out w8.drew (belowN (Below.refl _ _) 1)
        obtain ⟨X1, f, hX1, hf, hF⟩ := classOf (fun w' => w'.cell? ⟨w5.heap.size, 0, none⟩ = some (.int .u64 im) ∧ w'.cell? ⟨w5.heap.size, 1, none⟩ = some (.int .u64 iq)) (w := w8.drew) c0
        have f1 := fun x => (hf x).1
        have f2 := fun x => (hf x).2
        have HF1 := Lib.hid hF
        have HFa := Lib.hid (hF w8.drew c0)
        have e1 : IntKind.i64.wrap ((ne : Int) + 1) = ((ne + 1 : Nat) : Int) := by rw [show ((ne : Int) + 1) = ((ne + 1 : Nat) : Int) by omega]; exact IntWalk.i64_in _ (by omega)
        clear hF hf c0 HL8 HLa hb08 h88 hFlt h8 fr8 c8 HA2
        go_upto_region 15 with (fail)
        refine wp_region_text ⟨[4, 11, 16], [17, 18], 16⟩ (fun w' => ∃ x : X1, w' = f x) (by kernel_rfl) (by kernel_rfl) HFa.out ?_
        refine wpC_seg false (HFa.out) 4 0 _ _ (by rfl) (by rfl) ?_
        simp only [List.take_succ_cons, List.take_zero, List.drop_succ_cons, List.drop_zero, Bool.false_eq_true, if_false, Nat.zero_add, Nat.reduceAdd]
        repeat (go_big_quiet_step (fail))
        refine wpQuiet_nil ?_
        refine wpC_loud (by rfl) (by rfl) fun K hK => ?_
        go_wp2_with fail
        refine (HL82.out _ (belowN (Below.refl _ _) 1)).mono ?_
        rintro e w' ⟨rfl, hww⟩
        rw [hww]
        refine hK _ _ (fun _ => HFa.out) ?_
        clear hK hww w'
        refine wpC_seg false (HFa.out) 6 5 _ _ (by rfl) (by rfl) ?_
        simp only [List.take_succ_cons, List.take_zero, List.drop_succ_cons, List.drop_zero, Bool.false_eq_true, if_false, Nat.zero_add, Nat.reduceAdd]
        repeat (go_big_quiet_step (fail))
        refine wpQuiet_nil ?_
        clear e1
        refine wpC_loud (by rfl) (by rfl) fun K hK => ?_
        go_wp2_with fail
        refine (HLa2.out _ (belowN (Below.refl _ _) 1)).mono ?_
        rintro e w9 ⟨rfl, b9⟩
        have HB9 := Lib.hid ((belowN (Below.refl w8.heap.size w8) 1).trans b9)
        have HF3 := Lib.hid (HF1.out w9 (HC.out w9 HB9.out))
        refine hK _ _ (fun _ => HF3.out) ?_
        clear hK b9
        refine wpC_seg false (HF3.out) 4 12 _ _ (by rfl) (by rfl) ?_
        simp only [List.take_succ_cons, List.take_zero, List.drop_succ_cons, List.drop_zero, Bool.false_eq_true, if_false, Nat.zero_add, Nat.reduceAdd]
        repeat (go_big_quiet_step (fail))
        refine wpQuiet_nil ?_
        refine wpC_loud (by rfl) (by rfl) fun K hK => ?_
        go_wp2_with fail
        have HB10 := Lib.hid (HB08.out.trans (HB9.out.mono HB08.out.size))
        refine (HV.out _ HB10.out).mono ?_
        rintro e w10 ⟨rfl, b10⟩
        have HB11 := Lib.hid (HB10.out.trans (b10.mono HB10.out.size))
        refine hK _ _ (fun h => absurd h (by decide)) ?_
        clear hK b10
        refine wpC_segD 2 17 _ _ (by rfl) (by rfl) ?_
        simp only [List.take_succ_cons, List.take_zero, List.drop_succ_cons, List.drop_zero, if_true, Nat.zero_add, Nat.reduceAdd]
        repeat (go_big_quiet_step (fail))
        refine wpQuiet_nil ?_
        refine wpC_nil ?_
        clear f1 f2 hX1 HF1 HFa HF3 f
        go_wp2_with fail
        go_ret
        exact ⟨rfl, HB11.out⟩
end Go.Proofs.YtbjpfnafhhbmaaaDoor.Sad

/- StreamSpells' walk. -/
namespace Go.Proofs.YtbjpfnafhhbmaaaDoor.Sad
open Go.Proofs.YtbjpfnafhhbmaaaDoor
set_option linter.unusedVariables false
set_option linter.unusedSimpArgs false
open Go.RowKit RT Go.Shelf
theorem idS_lt (s : ByteArray) (seq : Nat) (hs : seq < 18446744073709551616) : (idS s seq).1.1 < 18446744073709551616 ∧ (idS s seq).1.2 < 18446744073709551616 := by
  have h1 := numS_lt (cutS s).1
  have h2 := numS_lt (cutS s).2.1
  unfold idS
  split
  · refine ⟨h1, ?_⟩
    dsimp only
    split <;> omega
  · exact ⟨by decide, by decide⟩
set_option maxHeartbeats 6400000 in
set_option maxRecDepth 100000 in
theorem streamSpells_walk {w : World} (hl : Laid w) (m q : Nat) (hm : m < 18446744073709551616) (hq : q < 18446744073709551616) (s : ByteArray) (hs : s.size < 4294967281) :
    Calls Tryd.prog 4 #[.agg #[.int .u64 m, .int .u64 q], .string s] w fun e w' => e = .returned (.bool true) ∧ Below w.heap.size w w' := by
  obtain ⟨w1, hw1⟩ : ∃ w1, w1 = w.alloc (.cells #[.int .u64 m, .int .u64 q] 24) := ⟨_, rfl⟩
  have hb1 : Below w.heap.size w w1 := by rw [hw1]; exact (Below.refl _ _).alloc (Nat.le_refl _) _
  have hh1 : w1.heap[w.heap.size]? = some (.cells #[.int .u64 m, .int .u64 q] 24 (0, 0)) := by rw [hw1]; exact heap_new _ _
  have x0 := cell_in hh1 (i := 0) rfl
  have x1 := cell_in hh1 (i := 1) rfl
  have HT := Lib.hid (idText_any m q hm hq (hl.below hb1))
  have hsz : (idT m q).size < 4294967281 := by
    have h1 := decS_size m hm
    have h2 := decS_size q hq
    unfold idT
    simp only [ByteArray.size_append]
    have : (⟨#[45]⟩ : ByteArray).size = 1 := rfl
    omega
  have HI := fun w' (hb : Below w1.heap.size w1 w') => id_any (idT m q) 7 hsz (by omega) ((hl.below hb1).below hb)
  rw [idS_idT m q 7 hm hq] at HI
  have HI1 := Lib.hid HI
  have hm1 : idS s 0 = ((idS s 0).1, (idS s 0).2) := rfl
  have hid := fun (h : (idS s 0).2 = false) => idS_no h
  have hsp := fun (h : (idS s 0).2 = true) => idT_idS h
  have hlt : (idS s 0).1.1 < 18446744073709551616 ∧ (idS s 0).1.2 < 18446744073709551616 := idS_lt s 0 (by omega)
  have HJ := fun w' (hb : Below w.heap.size w w') => id_any s 0 hs (by omega) (hl.below hb)
  obtain ⟨⟨⟨c, d⟩, ok⟩, hN⟩ : ∃ N, idS s 0 = N := ⟨_, rfl⟩
  rw [hN] at HJ hid hsp hlt
  dsimp only at HJ hid hsp hlt
  obtain ⟨t, ht⟩ : ∃ t, idT m q = t := ⟨_, rfl⟩
  rw [ht] at HT HI1
  have HJ2 := Lib.hid HJ
  have HV := Lib.hid (fun w' (hb : Below w.heap.size w w') => lives_any (hl.below hb))
  have HLd := Lib.hid (fun w' (hb : Below w.heap.size w w') => hl.below hb)
  have HW1 := Lib.hid hw1
  have HB1 := Lib.hid (And.intro hb1 hh1)
  have HQ := Lib.hid (And.intro hid (And.intro hsp hlt))
  clear hl hm hq hw1 hb1 hh1 hsz HI HJ hm1 hid hsp hlt hN ht
  go_enter Tryd.func4, Tryd.ntmps4
  go_wp2_with fail
  rw [← HW1.out]
  refine HT.out.mono ?_
  rintro e w2 ⟨rfl, b2⟩
  have HB2 := Lib.hid b2
  clear b2 x0 x1
  go_wp2_with fail
  refine (HI1.out _ HB2.out).mono ?_
  rintro e w3 ⟨rfl, b3⟩
  have HB3 := Lib.hid (HB2.out.trans (b3.mono HB2.out.size))
  clear b3
  go_upto_region 2 with (fail)
  obtain ⟨w4, hw4⟩ : ∃ w4, w4 = w3.alloc (.cells #[.int .u64 m, .int .u64 q] 24) := ⟨_, rfl⟩
  rw [← hw4]
  have h44 : w4.heap[w3.heap.size]? = some (.cells #[.int .u64 m, .int .u64 q] 24 (0, 0)) := by rw [hw4]; exact heap_new _ _
  have b4 : Below w1.heap.size w1 w4 := HB3.out.trans ((show Below w3.heap.size w3 w4 by rw [hw4]; exact (Below.refl _ _).alloc (Nat.le_refl _) _).mono HB3.out.size)
  have h41 := (b4.block _ (heap_lt HB1.out.2)).trans HB1.out.2
  have x0 := cell_in h41 (i := 0) rfl
  have x1 := cell_in h41 (i := 1) rfl
  have y0 := cell_in h44 (i := 0) rfl
  have y1 := cell_in h44 (i := 1) rfl
  have HB4 := Lib.hid (HB1.out.1.trans (b4.mono HB1.out.1.size))
  clear hw4 h44 b4 h41
  go_wp2_with fail
  clear x0 x1 y0 y1
  refine (HJ2.out _ HB4.out).mono ?_
  rintro e w5 ⟨rfl, b5⟩
  have HB5 := Lib.hid (HB4.out.trans (b5.mono HB4.out.size))
  clear b5
  go_upto_region 5 with (fail)
  obtain ⟨w6, hw6⟩ : ∃ w6, w6 = w5.alloc (.cells #[.int .u64 c, .int .u64 d] 24) := ⟨_, rfl⟩
  rw [← hw6]
  have h66 : w6.heap[w5.heap.size]? = some (.cells #[.int .u64 c, .int .u64 d] 24 (0, 0)) := by rw [hw6]; exact heap_new _ _
  have HB6 := Lib.hid (HB5.out.trans ((show Below w5.heap.size w5 w6 by rw [hw6]; exact (Below.refl _ _).alloc (Nat.le_refl _) _).mono HB5.out.size))
  clear hw6
  have y0 := cell_in h66 (i := 0) rfl
  have y1 := cell_in h66 (i := 1) rfl
  clear h66
  cases ok
  case' false =>
    have hcd := HQ.out.1 rfl
    simp only [Prod.mk.injEq] at hcd
    obtain ⟨rfl, rfl⟩ := hcd
    go_wp2_with fail
    refine (HV.out _ HB6.out).mono ?_
    rintro e w7 ⟨rfl, b7⟩
    have HB7 := Lib.hid (HB6.out.trans (b7.mono HB6.out.size))
    clear b7
    go_wp2_with fail
    go_ret
    exact ⟨rfl, HB7.out⟩
  case' true =>
    have HT2 := Lib.hid (idText_any c d HQ.out.2.2.1 HQ.out.2.2.2 (HLd.out _ HB6.out))
    have hsp := HQ.out.2.1 rfl
    obtain ⟨t2, ht2⟩ : ∃ t2, idT c d = t2 := ⟨_, rfl⟩
    rw [ht2] at HT2 hsp
    clear ht2 HQ
    go_wp2_with fail
    refine HT2.out.mono ?_
    rintro e w7 ⟨rfl, b7⟩
    have HB7 := Lib.hid (HB6.out.trans (b7.mono HB6.out.size))
    clear b7 y0 y1
    rcases hsp with rfl | rfl
    · go_wp2_with fail
      refine (HV.out _ HB7.out).mono ?_
      rintro e w8 ⟨rfl, b8⟩
      have HB8 := Lib.hid (HB7.out.trans (b8.mono HB7.out.size))
      clear b8
      go_wp2_with fail
      go_ret
      exact ⟨rfl, HB8.out⟩
    · have e1 : ((s ++ ⟨#[45, 48]⟩ : ByteArray).toList == s.toList) = false := by
        rw [beq_eq_false_iff_ne]
        intro h
        have := congrArg List.length h
        simp only [ByteArray.toList_eq, ByteArray.data_append, Array.toList_append, List.length_append] at this
        simp at this
      obtain ⟨u, hu⟩ : ∃ u, (s ++ ⟨#[45, 48]⟩ : ByteArray) = u := ⟨_, rfl⟩
      rw [hu] at e1 ⊢
      go_wp2_with fail
      refine (HV.out _ HB7.out).mono ?_
      rintro e w8 ⟨rfl, b8⟩
      have HB8 := Lib.hid (HB7.out.trans (b8.mono HB7.out.size))
      clear b8
      go_wp2_with fail
      go_ret
      exact ⟨rfl, HB8.out⟩
end Go.Proofs.YtbjpfnafhhbmaaaDoor.Sad

/- stillroomref16: numbers without a sign as texts. -/
namespace Go.Proofs.YtbjpfnafhhbmaaaDoor
set_option linter.unusedVariables false
set_option linter.unusedSimpArgs false
open Go.RowKit
def digs : ByteArray := ⟨#[48, 49, 50, 51, 52, 53, 54, 55, 56, 57]⟩
theorem digs_at : ∀ d, d < 10 → ({ data := #[48, 49, 50, 51, 52, 53, 54, 55, 56, 57] } : ByteArray).extract d (d + 1) = ⟨#[UInt8.ofNat (48 + d)]⟩
  | 0, _ => by decide
  | 1, _ => by decide
  | 2, _ => by decide
  | 3, _ => by decide
  | 4, _ => by decide
  | 5, _ => by decide
  | 6, _ => by decide
  | 7, _ => by decide
  | 8, _ => by decide
  | 9, _ => by decide
  | d + 10, h => by omega
theorem dec_step {m : Nat} (h : 9 < m) : Lib.decDigits m = Lib.decDigits (m / 10) ++ [UInt8.ofNat (48 + m % 10)] := by rw [Lib.decDigits, dif_neg (by omega)]
set_option maxHeartbeats 1600000 in
set_option maxRecDepth 100000 in
theorem refText (u : Nat) (hu : u < 18446744073709551616) (w : World) :
    Calls Tryd.prog 30 #[.int .u64 u] w fun e w' => e = .returned (.string (decS u)) ∧ Below w.heap.size w w' := by
  have HU := Lib.hid (And.intro hu trivial)
  clear hu
  go_enter Tryd.func30, Tryd.ntmps30
  go_wp2_with fail
  go_loopw [0, 3] (fun a b wr => ∃ (m : Nat) (t : ByteArray), a = .int .u64 m ∧ b = .string t ∧ Hid ((m ≤ u ∧ Lib.decDigits u = Lib.decDigits m ++ t.data.toList) ∧ Below w.heap.size w wr)) (fun a _ _ => (intOf a).toNat)
  case atStart => exact ⟨u, ⟨#[]⟩, rfl, rfl, Lib.hid ⟨⟨Nat.le_refl _, by simp⟩, Below.refl _ _⟩⟩
  case round =>
    obtain ⟨m, t, rfl, rfl, hI⟩ := hrel
    by_cases hlt : 9 < m
    · have i1 : (9 : Int) < (m : Int) := by omega
      obtain ⟨d, hd⟩ : ∃ d, m % 10 = d := ⟨_, rfl⟩
      have hd10 : d < 10 := by omega
      have hmod : (m : Int) % 10 = (d : Int) := by omega
      have hw1 : IntKind.u64.wrap ((d : Int) + 1) = (d : Int) + 1 := by rw [IntKind.wrap_u64]; omega
      have HD := Lib.hid (And.intro hd hd10)
      clear hd
      have hts : t.size ≤ 20 := by
        have h1 := congrArg List.length hI.out.1.2
        rw [List.length_append] at h1
        have h2 := decS_size u HU.out.1
        have e1 : (decS u).size = (Lib.decDigits u).length := by simp [decS, ByteArray.size]
        have e2 : t.size = t.data.toList.length := Array.length_toList.symm
        omega
      go_wp2_with fail
      case roundEnd =>
        refine ⟨⟨m / 10, ({ data := #[48, 49, 50, 51, 52, 53, 54, 55, 56, 57] } : ByteArray).extract d (d + 1) ++ t, ?_, rfl, Lib.hid ⟨⟨?_, ?_⟩, hI.out.2⟩⟩, ?_⟩
        · rw [IntKind.wrap_u64]; congr 1; have := HU.out.1; have := hI.out.1.1; omega
        · have := hI.out.1.1; omega
        · rw [digs_at d hd10, hI.out.1.2, dec_step hlt, HD.out.1, ByteArray.data_append]
          simp
        · rw [IntKind.wrap_u64]; simp only [intOf]; have := HU.out.1; have := hI.out.1.1; omega
    · have i1 : (m : Int) ≤ 9 := by omega
      have hm10 : m < 10 := by omega
      have hw1 : IntKind.u64.wrap ((m : Int) + 1) = (m : Int) + 1 := by rw [IntKind.wrap_u64]; omega
      have hts : t.size ≤ 20 := by
        have h1 := congrArg List.length hI.out.1.2
        rw [List.length_append] at h1
        have h2 := decS_size u HU.out.1
        have e1 : (decS u).size = (Lib.decDigits u).length := by simp [decS, ByteArray.size]
        have e2 : t.size = t.data.toList.length := Array.length_toList.symm
        omega
      have hres : ({ data := #[48, 49, 50, 51, 52, 53, 54, 55, 56, 57] } : ByteArray).extract m (m + 1) ++ t = decS u := by
        rw [digs_at m hm10]
        apply ByteArray.ext
        apply Array.toList_inj.1
        rw [ByteArray.data_append]
        show _ = Lib.decDigits u
        rw [hI.out.1.2, Lib.decDigits_one hm10]
        simp
      have HRs := Lib.hid hres
      clear hres
      go_wp2_with fail
      go_ret
      exact ⟨by rw [← HRs.out]; rfl, hI.out.2⟩
set_option maxHeartbeats 3200000 in
set_option maxRecDepth 100000 in
theorem refIDText (m q : Nat) (hm : m < 18446744073709551616) (hq : q < 18446744073709551616) (w : World) :
    Calls Tryd.prog 12 #[.agg #[.int .u64 m, .int .u64 q]] w fun e w' => e = .returned (.string (idT m q)) ∧ Below w.heap.size w w' := by
  obtain ⟨w1, hw1⟩ : ∃ w1, w1 = w.alloc (.cells #[.int .u64 m, .int .u64 q] 24) := ⟨_, rfl⟩
  have hb1 : Below w.heap.size w w1 := by rw [hw1]; exact (Below.refl _ _).alloc (Nat.le_refl _) _
  have hh1 : w1.heap[w.heap.size]? = some (.cells #[.int .u64 m, .int .u64 q] 24 (0, 0)) := by rw [hw1]; exact heap_new _ _
  have hlt1 := heap_lt hh1
  have HC := Lib.hid (show ∀ w', Below w1.heap.size w1 w' → w'.cell? ⟨w.heap.size, 0, none⟩ = some (.int .u64 m) ∧ w'.cell? ⟨w.heap.size, 1, none⟩ = some (.int .u64 q) from fun w' hb =>
    ⟨cell_in ((hb.block _ hlt1).trans hh1) rfl, cell_in ((hb.block _ hlt1).trans hh1) rfl⟩)
  have HM := Lib.hid (fun w' (hb : Below w1.heap.size w1 w') => refText m hm w')
  have HQ := Lib.hid (fun w' (hb : Below w1.heap.size w1 w') => refText q hq w')
  have hs1 := decS_size m hm
  have hs2 := decS_size q hq
  obtain ⟨a, ha⟩ : ∃ a, decS m = a := ⟨_, rfl⟩
  obtain ⟨b, hb⟩ : ∃ b, decS q = b := ⟨_, rfl⟩
  have hid : idT m q = a ++ ⟨#[45]⟩ ++ b := by unfold idT; rw [ha, hb]
  rw [ha] at HM hs1
  rw [hb] at HQ hs2
  rw [hid]
  obtain ⟨c0, c1⟩ := HC.out w1 (Below.refl _ _)
  obtain ⟨X1, f, hX1, hf, hF⟩ := classOf (fun x => x.cell? ⟨w.heap.size, 0, none⟩ = some (.int .u64 m) ∧ x.cell? ⟨w.heap.size, 1, none⟩ = some (.int .u64 q)) (w := w1) ⟨c0, c1⟩
  have f1 := fun x => (hf x).1
  have f2 := fun x => (hf x).2
  have HF1 := Lib.hid hF
  have HFa := Lib.hid (hF w1.drew ⟨c0, c1⟩)
  have HW := Lib.hid hw1
  have HB1 := Lib.hid hb1
  clear hF hf hw1 hb1 hh1 ha hb hid hm hq hlt1 c0 c1
  go_enter Tryd.func12, Tryd.ntmps12
  go_wp2_with fail
  rw [← HW.out]
  refine wp_region_text ⟨[2, 6], [3, 7, 8], 6⟩ (fun w' => ∃ x : X1, w' = f x) (by kernel_rfl) (by kernel_rfl) HFa.out ?_
  refine wpC_seg false (HFa.out) 2 0 _ _ (by rfl) (by rfl) ?_
  simp only [List.take_succ_cons, List.take_zero, List.drop_succ_cons, List.drop_zero, Bool.false_eq_true, if_false, Nat.zero_add, Nat.reduceAdd]
  repeat (go_big_quiet_step (fail))
  refine wpQuiet_nil ?_
  refine wpC_loud (by rfl) (by rfl) fun K hK => ?_
  go_wp2_with fail
  refine (HM.out _ (belowN (Below.refl _ _) 1)).mono ?_
  rintro e w2 ⟨rfl, b2⟩
  have HB2 := Lib.hid ((belowN (Below.refl w1.heap.size w1) 1).trans b2)
  have HF2 := Lib.hid (HF1.out w2 (HC.out w2 HB2.out))
  refine hK _ _ (fun _ => HF2.out) ?_
  clear hK b2
  refine wpC_seg true (HF2.out) 1 3 _ _ (by rfl) (by rfl) ?_
  simp only [List.take_succ_cons, List.take_zero, List.drop_succ_cons, List.drop_zero, if_true, Nat.zero_add, Nat.reduceAdd]
  repeat (go_big_quiet_step (fail))
  refine wpQuiet_nil ?_
  refine wpC_seg false (HF2.out) 2 4 _ _ (by rfl) (by rfl) ?_
  simp only [List.take_succ_cons, List.take_zero, List.drop_succ_cons, List.drop_zero, Bool.false_eq_true, if_false, Nat.zero_add, Nat.reduceAdd]
  repeat (go_big_quiet_step (fail))
  refine wpQuiet_nil ?_
  refine wpC_loud (by rfl) (by rfl) fun K hK => ?_
  go_wp2_with fail
  refine (HQ.out _ HB2.out).mono ?_
  rintro e w3 ⟨rfl, b3⟩
  have HB3 := Lib.hid (HB1.out.trans ((HB2.out.trans (b3.mono HB2.out.size)).mono HB1.out.size))
  refine hK _ _ (fun h => absurd h (by decide)) ?_
  clear hK b3
  refine wpC_segD 2 7 _ _ (by rfl) (by rfl) ?_
  simp only [List.take_succ_cons, List.take_zero, List.drop_succ_cons, List.drop_zero, if_true, Nat.zero_add, Nat.reduceAdd]
  repeat (go_big_quiet_step (fail))
  refine wpQuiet_nil ?_
  refine wpC_nil ?_
  clear f1 f2 hX1 HF1 HFa HF2 f
  go_wp2_with fail
  go_ret
  exact ⟨rfl, HB3.out⟩
end Go.Proofs.YtbjpfnafhhbmaaaDoor

/- stillroomref16.Number says what stream.number says: plain law. -/
namespace Go.Proofs.YtbjpfnafhhbmaaaDoor
set_option linter.unusedVariables false
set_option linter.unusedSimpArgs false
open Go.RowKit
/-- The document's loop. -/
def refN (acc : Nat) : List UInt8 → Option Nat
  | [] => some acc
  | c :: r => if c.toNat < 48 ∨ 57 < c.toNat then none else if (18446744073709551615 - (c.toNat - 48)) / 10 < acc then none else refN (10 * acc + (c.toNat - 48)) r
theorem refN_parse : ∀ (l : List UInt8) (acc v : Nat), refN acc l = some v ↔ Lib.parseUintM 18446744073709551615 acc l = .ok v
  | [], acc, v => by simp [refN, Lib.parseUintM]
  | c :: r, acc, v => by
    simp only [refN, Lib.parseUintM]
    by_cases h1 : 48 ≤ c.toNat ∧ c.toNat ≤ 57
    · rw [if_neg (by omega), if_pos h1]
      by_cases h2 : (18446744073709551615 - (c.toNat - 48)) / 10 < acc
      · rw [if_pos h2]
        by_cases h3 : 1844674407370955162 ≤ acc
        · rw [if_pos h3]; simp
        · rw [if_neg h3, if_pos (by omega)]; simp
      · rw [if_neg h2, if_neg (by omega), if_neg (by omega), show 10 * acc + (c.toNat - 48) = acc * 10 + (c.toNat - 48) by omega]
        exact refN_parse r _ v
    · rw [if_pos (by omega), if_neg h1]; simp
theorem parse_last {l : List UInt8} {c : UInt8} {v : Nat} (h : Lib.parseUintM 18446744073709551615 0 (l ++ [c]) = .ok v) : ∃ v', Lib.parseUintM 18446744073709551615 0 l = .ok v' ∧ 48 ≤ c.toNat ∧ c.toNat ≤ 57 ∧ v = 10 * v' + (c.toNat - 48) := by
  rw [parse_append] at h
  cases hp : Lib.parseUintM 18446744073709551615 0 l with
  | ok v' =>
    rw [hp] at h
    simp only [Lib.parseUintM] at h
    split at h
    · next hd =>
      split at h
      · cases h
      · split at h
        · cases h
        · cases h
          exact ⟨v', rfl, hd.1, hd.2, by omega⟩
    · cases h
  | range => rw [hp] at h; cases h
  | _ => rw [hp] at h; cases h
theorem dec_canon : ∀ (k : Nat) (l : List UInt8) (v : Nat), l.length = k + 1 → (1 < l.length → l.head? ≠ some 48) → Lib.parseUintM 18446744073709551615 0 l = .ok v → Lib.decDigits v = l := by
  intro k
  induction k with
  | zero =>
    intro l v hl hh hp
    obtain ⟨c, rfl⟩ : ∃ c, l = [c] := List.length_eq_one_iff.1 hl
    obtain ⟨v', h1, h2, h3, h4⟩ := parse_last (l := []) hp
    simp only [Lib.parseUintM] at h1
    cases h1
    rw [Lib.decDigits_one (by omega), show 48 + v = c.toNat by omega]
    simp
  | succ k ih =>
    intro l v hl hh hp
    have hne : l ≠ [] := fun e => by rw [e] at hl; simp at hl
    obtain ⟨l', c, rfl⟩ : ∃ l' c, l = l' ++ [c] := ⟨l.dropLast, l.getLast hne, (List.dropLast_concat_getLast hne).symm⟩
    obtain ⟨v', h1, h2, h3, h4⟩ := parse_last hp
    have hl' : l'.length = k + 1 := by simpa using hl
    have hne' : l' ≠ [] := fun e => by rw [e] at hl'; simp at hl'
    have hhd : l'.head? ≠ some 48 := fun e => hh (by simp; omega) (by rw [List.head?_append, e]; rfl)
    have hd := ih l' v' hl' (fun _ => hhd) h1
    have hv0 : v' ≠ 0 := fun e => by
      rw [e, Lib.decDigits_one (by omega)] at hd
      rw [← hd] at hhd
      exact hhd rfl
    rw [dec_step (by omega), show v / 10 = v' by omega, hd, show 48 + v % 10 = c.toNat by omega]
    simp
theorem dec_head (u : Nat) : 1 < (Lib.decDigits u).length → (Lib.decDigits u).head? ≠ some 48 := by
  induction u using Nat.strongRecOn with
  | _ u ih =>
    intro h
    by_cases h9 : 9 < u
    · rw [dec_step h9, List.head?_append]
      by_cases h1 : 1 < (Lib.decDigits (u / 10)).length
      · have := ih (u / 10) (by omega) h1
        cases hh : (Lib.decDigits (u / 10)).head? with
        | none =>
          rw [List.head?_eq_none_iff] at hh
          rw [hh] at h1; simp at h1
        | some x =>
          rw [hh] at this
          exact this
      · have h100 : u / 10 < 10 := by
          rcases Nat.lt_or_ge (u / 10) 10 with h | h
          · exact h
          · exfalso
            rw [dec_step (by omega), List.length_append] at h1
            have h2 := (dec_nodash (u / 10 / 10)).2
            have h3 := List.length_pos_iff.2 h2
            simp only [List.length_cons, List.length_nil] at h1
            omega
        rw [Lib.decDigits_one h100]
        intro e
        rw [List.head?_cons] at e
        have h2 := congrArg UInt8.toNat (Option.some.inj e)
        rw [digit_nat _ h100] at h2
        have h3 : (48 : UInt8).toNat = 48 := rfl
        omega
    · rw [Lib.decDigits_one (by omega)] at h
      simp at h
/-- What the document's Number says. -/
def refNum (s : ByteArray) : Nat × Bool :=
  if s.size = 0 ∨ 20 < s.size ∨ (1 < s.size ∧ s.data.toList.head? = some 48) then (0, false)
  else match refN 0 s.data.toList with
    | some v => (v, true)
    | none => (0, false)
theorem refNum_numS (s : ByteArray) : (refNum s).2 = (numS s).2 ∧ ((numS s).2 = true → (refNum s).1 = (numS s).1) := by
  have e : s.size = s.data.toList.length := Array.length_toList.symm
  by_cases hn : (numS s).2 = true
  · have ht := numS_text hn
    obtain ⟨u, hu⟩ : ∃ u, (numS s).1 = u := ⟨_, rfl⟩
    have hlt := numS_lt s
    rw [hu] at ht hlt
    have hl : s.data.toList = Lib.decDigits u := by rw [← ht]; rfl
    have hp := parse_dec u hlt
    have hsz := decS_size u hlt
    rw [ht] at hsz
    have hne := (dec_nodash u).2
    have hpos := List.length_pos_iff.2 hne
    have hr : refNum s = (u, true) := by
      unfold refNum
      rw [if_neg]
      · rw [hl, (refN_parse _ 0 u).2 hp]
      · rintro (h | h | ⟨h1, h2⟩)
        · rw [e, hl] at h; omega
        · omega
        · rw [hl] at h2
          exact dec_head u (by rw [e, hl] at h1; exact h1) h2
    rw [hr, hn, hu]
    exact ⟨rfl, fun _ => rfl⟩
  · have hf : (numS s).2 = false := by simpa using hn
    rw [hf]
    refine ⟨?_, fun h => by cases h⟩
    unfold refNum
    split
    · rfl
    · next hg =>
      cases hr : refN 0 s.data.toList with
      | none => rfl
      | some v =>
        exfalso
        have hp := (refN_parse _ 0 v).1 hr
        have hne : s.data.toList ≠ [] := fun h => hg (.inl (by rw [e, h]; rfl))
        have hpos := List.length_pos_iff.2 hne
        have hd := dec_canon (s.data.toList.length - 1) _ v (by omega) (fun h1 h2 => hg (.inr (.inr ⟨by rw [e]; exact h1, h2⟩))) hp
        apply hn
        unfold numS
        have hb : Lib.parseUintB 64 s.data.toList = .ok v := by unfold Lib.parseUintB; rw [if_neg hne]; exact hp
        rw [hb]
        simp only [beq_iff_eq]
        rw [ByteArray.toList_eq, ByteArray.toList_eq]
        exact hd
end Go.Proofs.YtbjpfnafhhbmaaaDoor

/- stillroomref16.Number: the walk. -/
namespace Go.Proofs.YtbjpfnafhhbmaaaDoor
set_option linter.unusedVariables false
set_option linter.unusedSimpArgs false
open Go.RowKit
theorem refN_take {l : List UInt8} {i : Nat} {c : UInt8} (h : l[i]? = some c) : l.drop i = c :: l.drop (i + 1) := by
  obtain ⟨hi, e⟩ := List.getElem?_eq_some_iff.1 h
  rw [List.drop_eq_getElem_cons hi, e]
set_option maxHeartbeats 6400000 in
set_option maxRecDepth 100000 in
theorem refNumber (s : ByteArray) (w : World) :
    Calls Tryd.prog 28 #[.string s] w fun e w' => e = .returned (.tuple #[.int .u64 (refNum s).1, .bool (refNum s).2]) ∧ Below w.heap.size w w' := by
  obtain ⟨N, hN⟩ : ∃ N, refNum s = N := ⟨_, rfl⟩
  rw [hN]
  have e0 : s.size = s.data.toList.length := Array.length_toList.symm
  by_cases hbad : s.size = 0 ∨ 20 < s.size ∨ (1 < s.size ∧ s.data.toList.head? = some 48)
  · have hN0 : N = (0, false) := by rw [← hN]; unfold refNum; rw [if_pos hbad]
    subst hN0
    clear hN
    rcases Nat.eq_zero_or_pos s.size with h0 | h0
    · have hE : s.toList.isEmpty = true := by rw [ByteArray.toList_eq, List.isEmpty_iff, ← List.length_eq_zero_iff]; omega
      clear hbad e0 h0
      go_enter Tryd.func28, Tryd.ntmps28
      go_wp2_with fail
      go_ret2
      exact ⟨rfl, Below.refl _ _⟩
    · have hE : s.toList.isEmpty = false := by rw [ByteArray.toList_eq]; cases hl : s.data.toList with
        | nil => rw [hl] at e0; simp only [List.length_nil] at e0; omega
        | cons a b => rfl
      rcases Nat.lt_or_ge 20 s.size with h1 | h1
      · have i1 : decide (20 < (s.size : Int)) = true := decide_eq_true (by omega)
        clear hbad e0 h0
        go_enter Tryd.func28, Tryd.ntmps28
        go_wp2_with fail
        go_ret2
        exact ⟨rfl, Below.refl _ _⟩
      · obtain ⟨h2, h3⟩ := (hbad.resolve_left (by omega)).resolve_left (by omega)
        have i1 : decide (20 < (s.size : Int)) = false := decide_eq_false (by omega)
        have i2 : (1 : Int) < (s.size : Int) := by omega
        have hx : s[0].toNat = 48 := by
          have : s.data.toList[0]? = some 48 := by rw [← List.head?_eq_getElem?]; exact h3
          obtain ⟨hi, e⟩ := List.getElem?_eq_some_iff.1 this
          have e2 : s[0] = s.data.toList[0] := by rw [Array.getElem_toList]; rfl
          rw [e2, e]; rfl
        have i3 : ((s[0].toNat : Int) == 48) = true := by rw [hx]; rfl
        clear hbad e0 h3 hx
        go_enter Tryd.func28, Tryd.ntmps28
        go_wp2_with fail
        go_ret2
        exact ⟨rfl, Below.refl _ _⟩
  · have hN1 : N = match refN 0 s.data.toList with | some v => (v, true) | none => (0, false) := by rw [← hN]; unfold refNum; exact (if_neg hbad).trans (by cases refN 0 s.data.toList <;> rfl)
    have h0 : 0 < s.size := by omega
    have hE : s.toList.isEmpty = false := by rw [ByteArray.toList_eq]; cases hl : s.data.toList with
      | nil => rw [hl] at e0; simp only [List.length_nil] at e0; omega
      | cons a b => rfl
    have i1 : decide (20 < (s.size : Int)) = false := decide_eq_false (by omega)
    have HN := Lib.hid (And.intro hN1 e0)
    have H20 : s.size ≤ 20 := by omega
    have hcase : s.size = 1 ∨ 1 < s.size ∧ ((s[0].toNat : Int) == 48) = false := by
      rcases Nat.lt_or_ge 1 s.size with h | h
      · refine .inr ⟨h, ?_⟩
        have hne : s.data.toList.head? ≠ some 48 := fun e => hbad (.inr (.inr ⟨h, e⟩))
        rw [beq_eq_false_iff_ne]
        intro e
        apply hne
        rw [List.head?_eq_getElem?]
        have hi : 0 < s.data.toList.length := by omega
        rw [List.getElem?_eq_getElem hi]
        congr 1
        apply UInt8.toNat_inj.1
        have e2 : s[0] = s.data.toList[0] := by rw [Array.getElem_toList]; rfl
        rw [← e2]
        have : (48 : UInt8).toNat = 48 := rfl
        omega
      · exact .inl (by omega)
    clear hN hbad hN1 e0
    rcases hcase with hc | ⟨hc1, hc2⟩
    case' inl =>
      have i2 : decide (1 < (s.size : Int)) = false := decide_eq_false (by omega)
      clear hc
    case' inr =>
      have i2 : decide (1 < (s.size : Int)) = true := decide_eq_true (by omega)
    all_goals
      go_enter Tryd.func28, Tryd.ntmps28
      go_wp2_with fail
      go_loopw [4, 5] (fun a i wr => ∃ (acc k : Nat), k ≤ s.size ∧ acc < 18446744073709551616 ∧ a = .int .u64 acc ∧ i = .int .i64 k ∧ Hid (refN 0 s.data.toList = refN acc (s.data.toList.drop k)) ∧ wr = w) (fun _ i _ => s.size - (intOf i).toNat)
      case atStart => exact ⟨0, 0, by omega, by omega, rfl, rfl, Lib.hid rfl, rfl⟩
      case round =>
        obtain ⟨acc, k, hk, hacc, rfl, rfl, hI, rfl⟩ := hrel
        by_cases hlt : k < s.size
        · have j1 : (k : Int) < (s.size : Int) := by omega
          have hx : s.data.toList[k]? = some s[k] := by
            have h1 := HN.out.2
            rw [List.getElem?_eq_getElem (by omega)]
            congr 1
          have hst := hI.out
          rw [refN_take hx] at hst
          simp only [refN] at hst
          have HS := Lib.hid hst
          clear hst hx
          go_wp2_with fail
          case roundEnd =>
            have h1 := HS.out
            rw [if_neg (by omega), if_neg (by omega)] at h1
            refine ⟨⟨10 * acc + (s[k].toNat - 48), k + 1, by omega, by omega, ?_, by simp, Lib.hid h1, trivial⟩, ?_⟩
            · congr 1; omega
            · simp [intOf]; omega
          all_goals
            have hn : N = (0, false) := by
              rw [HN.out.1, HS.out]
              first
              | rw [if_pos (by omega)]
              | rw [if_neg (by omega), if_pos (by omega)]
            subst hn
            go_ret2
            exact ⟨rfl, Below.refl _ _⟩
        · obtain rfl : k = s.size := by omega
          have hn : N = (acc, true) := by
            rw [HN.out.1, hI.out, List.drop_eq_nil_of_le (by have := HN.out.2; omega)]
            rfl
          subst hn
          clear HN hI
          go_wp2_with fail
          go_ret2
          exact ⟨rfl, Below.refl _ _⟩
end Go.Proofs.YtbjpfnafhhbmaaaDoor

/- stillroomref16.ID says what stream.ID says. -/
namespace Go.Proofs.YtbjpfnafhhbmaaaDoor
set_option linter.unusedVariables false
set_option linter.unusedSimpArgs false
open Go.RowKit
theorem idS_two {s a b : ByteArray} {seq : Nat} (hc : cutS s = (a, b, true)) : idS s seq = if (refNum a).2 && (refNum b).2 then (((refNum a).1, (refNum b).1), true) else ((0, 0), false) := by
  have ha := refNum_numS a
  have hb := refNum_numS b
  unfold idS
  rw [hc]
  simp only [Bool.not_true, Bool.false_or, if_true]
  rw [ha.1, hb.1]
  by_cases h : ((numS a).2 && (numS b).2) = true
  · rw [if_pos h, if_pos h]
    simp only [Bool.and_eq_true] at h
    rw [ha.2 h.1, hb.2 h.2]
  · rw [if_neg h, if_neg h]
theorem idS_one {s : ByteArray} {seq : Nat} (hc : cutS s = (s, ⟨#[]⟩, false)) : idS s seq = if (refNum s).2 then (((refNum s).1, seq), true) else ((0, 0), false) := by
  have ha := refNum_numS s
  unfold idS
  rw [hc]
  simp only [Bool.not_false, Bool.true_or, Bool.and_true, Bool.false_eq_true, if_false]
  rw [ha.1]
  by_cases h : (numS s).2 = true
  · rw [if_pos h, if_pos h, ha.2 h]
  · rw [if_neg h, if_neg h]
set_option maxHeartbeats 6400000 in
set_option maxRecDepth 100000 in
theorem refID (s : ByteArray) (hs : s.size < 4294967281) (seq : Nat) (w : World) :
    Calls Tryd.prog 10 #[.string s, .int .u64 seq] w fun e w' => e = .returned (.tuple #[.agg #[.int .u64 (idS s seq).1.1, .int .u64 (idS s seq).1.2], .bool (idS s seq).2]) ∧ Below w.heap.size w w' := by
  obtain ⟨w1, hw1⟩ : ∃ w1, w1 = w.alloc (.cells #[.int .u64 0, .int .u64 0] 24) := ⟨_, rfl⟩
  have hb1 : Below w.heap.size w w1 := by rw [hw1]; exact (Below.refl _ _).alloc (Nat.le_refl _) _
  have hh1 : w1.heap[w.heap.size]? = some (.cells #[.int .u64 0, .int .u64 0] 24 (0, 0)) := by rw [hw1]; exact heap_new _ _
  have hlt1 := heap_lt hh1
  have HEnd : Hid (∀ w' x y, Below w1.heap.size w1 w' → (((w'.setCell ⟨w.heap.size, 0, none⟩ x).setCell ⟨w.heap.size, 1, none⟩ y).cell? ⟨w.heap.size, 0, none⟩ = some x ∧ ((w'.setCell ⟨w.heap.size, 0, none⟩ x).setCell ⟨w.heap.size, 1, none⟩ y).cell? ⟨w.heap.size, 1, none⟩ = some y) ∧ Below w.heap.size w ((w'.setCell ⟨w.heap.size, 0, none⟩ x).setCell ⟨w.heap.size, 1, none⟩ y)) := Lib.hid fun w' x y hb => by
    have h0 := (hb.block _ hlt1).trans hh1
    have h1 := setCell_head h0 0 x
    have h2 := setCell_head h1 1 y
    have bb := hb1.trans (hb.mono hb1.size)
    exact ⟨⟨cell_in h2 rfl, cell_in h2 rfl⟩, (bb.setCell (Nat.le_refl _) _).setCell (Nat.le_refl _) _⟩
  have HOld : Hid (∀ w', Below w1.heap.size w1 w' → (w'.cell? ⟨w.heap.size, 0, none⟩ = some (.int .u64 0) ∧ w'.frozen? ⟨w.heap.size, 0, none⟩ = false) ∧ ∀ x, (w'.setCell ⟨w.heap.size, 0, none⟩ x).cell? ⟨w.heap.size, 1, none⟩ = some (.int .u64 0) ∧ (w'.setCell ⟨w.heap.size, 0, none⟩ x).frozen? ⟨w.heap.size, 1, none⟩ = false) := Lib.hid fun w' hb => by
    have h0 := (hb.block _ hlt1).trans hh1
    exact ⟨⟨cell_in h0 rfl, frozen_in h0 0⟩, fun x => ⟨cell_in (setCell_head h0 0 x) rfl, frozen_in (setCell_head h0 0 x) 1⟩⟩
  have HW := Lib.hid hw1
  obtain ⟨N, hN⟩ : ∃ N, idS s seq = N := ⟨_, rfl⟩
  rw [hN]
  have HN := Lib.hid hN
  have HSz := Lib.hid (show s.size = s.data.toList.length from Array.length_toList.symm)
  clear hw1 hb1 hh1 hlt1 hN
  go_enter Tryd.func10, Tryd.ntmps10
  go_wp2_with fail
  rw [← HW.out]
  go_loopw [6] (fun i wr => ∃ k : Nat, k ≤ s.size ∧ i = .int .i64 k ∧ Hid ((45 : UInt8) ∉ s.data.toList.take k) ∧ wr = w1) (fun i _ => s.size - (intOf i).toNat)
  case atStart => exact ⟨0, Nat.zero_le _, rfl, Lib.hid (by simp), rfl⟩
  case round =>
    obtain ⟨k, hk, rfl, hI, rfl⟩ := hrel
    by_cases hlt : k < s.size
    · have j1 : (k : Int) < (s.size : Int) := by omega
      have hx : s.data.toList[k]? = some s[k] := by
        have h1 := HSz.out
        rw [List.getElem?_eq_getElem (by omega)]
        congr 1
      by_cases hc : s[k] = 45
      · have e1 : ((s[k].toNat : Int) == 45) = true := by rw [hc]; rfl
        have hcut : cutS s = (⟨(s.data.toList.take k).toArray⟩, ⟨(s.data.toList.drop (k + 1)).toArray⟩, true) := by
          unfold cutS
          have h1 : s.data.toList = s.data.toList.take k ++ 45 :: s.data.toList.drop (k + 1) := by
            conv => lhs; rw [← List.take_append_drop k s.data.toList, refN_take hx, hc]
          rw [h1, cut_dash _ _ hI.out]
          rw [← h1]
        have ha : s.extract 0 k = ⟨(s.data.toList.take k).toArray⟩ := by
          apply ByteArray.ext; apply Array.toList_inj.1; simp
        have hb : s.extract (k + 1) s.size = ⟨(s.data.toList.drop (k + 1)).toArray⟩ := by
          apply ByteArray.ext; apply Array.toList_inj.1
          simp
          rw [List.take_of_length_le (by rw [List.length_drop]; have := HSz.out; omega)]
        have hid := idS_two (seq := seq) hcut
        rw [HN.out, ← ha, ← hb] at hid
        have HA := Lib.hid (refNumber (s.extract 0 k) wr)
        have HB := Lib.hid (fun w' => refNumber (s.extract (k + 1) s.size) w')
        obtain ⟨a, haa⟩ : ∃ a, s.extract 0 k = a := ⟨_, rfl⟩
        obtain ⟨b, hbb⟩ : ∃ b, s.extract (k + 1) s.size = b := ⟨_, rfl⟩
        obtain ⟨am, ham⟩ : ∃ am, (refNum (s.extract 0 k)).1 = am := ⟨_, rfl⟩
        obtain ⟨bm, hbm⟩ : ∃ bm, (refNum (s.extract (k + 1) s.size)).1 = bm := ⟨_, rfl⟩
        obtain ⟨aok, haok⟩ : ∃ aok, (refNum (s.extract 0 k)).2 = aok := ⟨_, rfl⟩
        obtain ⟨bok, hbok⟩ : ∃ bok, (refNum (s.extract (k + 1) s.size)).2 = bok := ⟨_, rfl⟩
        rw [ham, haok] at HA
        rw [hbm, hbok] at HB
        rw [ham, hbm, haok, hbok] at hid
        subst hid
        clear ham hbm haok hbok haa hbb ha hb hcut hx HN hc
        go_wp2_with fail
        refine HA.out.mono ?_
        rintro e w3 ⟨rfl, b3⟩
        have HB3 := Lib.hid b3
        clear b3
        go_wp2_with fail
        refine (HB.out w3).mono ?_
        rintro e w4 ⟨rfl, b4⟩
        have HB4 := Lib.hid (HB3.out.trans (b4.mono HB3.out.size))
        clear b4
        cases aok <;> cases bok
        all_goals
          obtain ⟨⟨q0, f0⟩, hq1⟩ := HOld.out w4 HB4.out
          go_wp2_with fail
          first
          | exact bodyPost_ret (v := .tuple #[.agg #[.int .u64 0, .int .u64 0], .bool false]) (by have h := (HEnd.out w4 (.int .u64 0) (.int .u64 0) HB4.out).1; simp [results, Tryd.results10, go_sem, h.1, h.2]) rfl ⟨rfl, (HEnd.out w4 _ _ HB4.out).2⟩
          | exact bodyPost_ret (v := .tuple #[.agg #[.int .u64 am, .int .u64 bm], .bool true]) (by have h := (HEnd.out w4 (.int .u64 am) (.int .u64 bm) HB4.out).1; simp [results, Tryd.results10, go_sem, h.1, h.2]) rfl ⟨rfl, (HEnd.out w4 _ _ HB4.out).2⟩
      · have e1 : ((s[k].toNat : Int) == 45) = false := by
          rw [beq_eq_false_iff_ne]; intro h; apply hc; apply UInt8.toNat_inj.1
          have : (45 : UInt8).toNat = 45 := rfl
          omega
        have HNx := Lib.hid (show (45 : UInt8) ∉ s.data.toList.take (k + 1) by
          obtain ⟨hi, e⟩ := List.getElem?_eq_some_iff.1 hx
          rw [List.take_succ_eq_append_getElem hi, e]
          intro h
          rcases List.mem_append.1 h with h | h
          · exact hI.out h
          · exact hc (List.mem_singleton.1 h).symm)
        clear hx hc
        go_wp2_with fail
        go_roundw
        case rel => exact ⟨k + 1, by omega, by go_num, HNx, trivial⟩
        case measure => simp [intOf]; omega
    · obtain rfl : k = s.size := by omega
      have hid := idS_one (s := s) (seq := seq) (by
        unfold cutS
        have h1 := hI.out
        rw [List.take_of_length_le (by have := HSz.out; omega)] at h1
        rw [cut_nodash _ h1])
      rw [HN.out] at hid
      have HA := Lib.hid (refNumber s wr)
      obtain ⟨am, ham⟩ : ∃ am, (refNum s).1 = am := ⟨_, rfl⟩
      obtain ⟨aok, haok⟩ : ∃ aok, (refNum s).2 = aok := ⟨_, rfl⟩
      rw [ham, haok] at HA hid
      subst hid
      clear ham haok HN
      go_wp2_with fail
      refine HA.out.mono ?_
      rintro e w3 ⟨rfl, b3⟩
      have HB3 := Lib.hid b3
      clear b3
      cases aok
      all_goals
        obtain ⟨⟨q0, f0⟩, hq1⟩ := HOld.out w3 HB3.out
        go_wp2_with fail
        first
        | exact bodyPost_ret (v := .tuple #[.agg #[.int .u64 0, .int .u64 0], .bool false]) (by have h := (HEnd.out w3 (.int .u64 0) (.int .u64 0) HB3.out).1; simp [results, Tryd.results10, go_sem, h.1, h.2]) rfl ⟨rfl, (HEnd.out w3 _ _ HB3.out).2⟩
        | exact bodyPost_ret (v := .tuple #[.agg #[.int .u64 am, .int .u64 seq], .bool true]) (by have h := (HEnd.out w3 (.int .u64 am) (.int .u64 seq) HB3.out).1; simp [results, Tryd.results10, go_sem, h.1, h.2]) rfl ⟨rfl, (HEnd.out w3 _ _ HB3.out).2⟩
end Go.Proofs.YtbjpfnafhhbmaaaDoor

/- StreamNames' walk. -/
namespace Go.Proofs.YtbjpfnafhhbmaaaDoor.Sad
open Go.Proofs.YtbjpfnafhhbmaaaDoor
set_option linter.unusedVariables false
set_option linter.unusedSimpArgs false
open Go.RowKit RT Go.Shelf
set_option maxHeartbeats 6400000 in
set_option maxRecDepth 100000 in
theorem streamNames_walk {w : World} (hl : Laid w) (s : ByteArray) (hs : s.size < 4294967281) (seq : Nat) (hsq : seq < 18446744073709551616) (m q : Nat) (hm : m < 18446744073709551616) (hq : q < 18446744073709551616) :
    Calls Tryd.prog 3 #[.string s, .int .u64 seq, .agg #[.int .u64 m, .int .u64 q]] w fun e w' => e = .returned (.bool true) ∧ Below w.heap.size w w' := by
  obtain ⟨w1, hw1⟩ : ∃ w1, w1 = w.alloc (.cells #[.int .u64 m, .int .u64 q] 24) := ⟨_, rfl⟩
  have hb1 : Below w.heap.size w w1 := by rw [hw1]; exact (Below.refl _ _).alloc (Nat.le_refl _) _
  have hh1 : w1.heap[w.heap.size]? = some (.cells #[.int .u64 m, .int .u64 q] 24 (0, 0)) := by rw [hw1]; exact heap_new _ _
  have HJ := fun w' (hb : Below w.heap.size w w') => id_any s seq hs hsq (hl.below hb)
  have HK := fun w' => refID s hs seq w'
  obtain ⟨⟨⟨c, d⟩, ok⟩, hN⟩ : ∃ N, idS s seq = N := ⟨_, rfl⟩
  rw [hN] at HJ HK
  have HT := Lib.hid (fun w' (hb : Below w.heap.size w w') => idText_any m q hm hq (hl.below hb))
  have HU := Lib.hid (fun w' => refIDText m q hm hq w')
  obtain ⟨t, ht⟩ : ∃ t, idT m q = t := ⟨_, rfl⟩
  rw [ht] at HT HU
  have HJ2 := Lib.hid HJ
  have HK2 := Lib.hid HK
  have HV := Lib.hid (fun w' (hb : Below w.heap.size w w') => lives_any (hl.below hb))
  have HW1 := Lib.hid hw1
  have HB1 := Lib.hid (And.intro hb1 hh1)
  clear hl hm hq hs hw1 hb1 hh1 HJ HK hN ht hsq
  go_enter Tryd.func3, Tryd.ntmps3
  go_wp2_with fail
  rw [← HW1.out]
  refine (HJ2.out _ HB1.out.1).mono ?_
  rintro e w2 ⟨rfl, b2⟩
  have HB2 := Lib.hid (And.intro (HB1.out.1.trans (b2.mono HB1.out.1.size)) ((b2.block _ (heap_lt HB1.out.2)).trans HB1.out.2))
  clear b2
  go_upto_region 2 with (fail)
  obtain ⟨w3, hw3⟩ : ∃ w3, w3 = w2.alloc (.cells #[.int .u64 c, .int .u64 d] 24) := ⟨_, rfl⟩
  rw [← hw3]
  have h33 : w3.heap[w2.heap.size]? = some (.cells #[.int .u64 c, .int .u64 d] 24 (0, 0)) := by rw [hw3]; exact heap_new _ _
  have b3 : Below w2.heap.size w2 w3 := by rw [hw3]; exact (Below.refl _ _).alloc (Nat.le_refl _) _
  have HB3 := Lib.hid (And.intro (HB2.out.1.trans (b3.mono HB2.out.1.size)) (And.intro ((b3.block _ (heap_lt HB2.out.2)).trans HB2.out.2) h33))
  clear hw3 h33 b3
  go_wp2_with fail
  refine (HK2.out _).mono ?_
  rintro e w4 ⟨rfl, b4⟩
  go_upto_region 3 with (fail)
  obtain ⟨w5, hw5⟩ : ∃ w5, w5 = w4.alloc (.cells #[.int .u64 c, .int .u64 d] 24) := ⟨_, rfl⟩
  rw [← hw5]
  have h55 : w5.heap[w4.heap.size]? = some (.cells #[.int .u64 c, .int .u64 d] 24 (0, 0)) := by rw [hw5]; exact heap_new _ _
  have b35 : Below w3.heap.size w3 w5 := by rw [hw5]; exact b4.alloc b4.size _
  have h52 := (b35.block _ (heap_lt HB3.out.2.2)).trans HB3.out.2.2
  have h50 := (b35.block _ (heap_lt HB3.out.2.1)).trans HB3.out.2.1
  have HB5 := Lib.hid (HB3.out.1.trans (b35.mono HB3.out.1.size))
  have HC := Lib.hid (show ∀ w', Below w5.heap.size w5 w' → (w'.cell? ⟨w.heap.size, 0, none⟩ = some (.int .u64 m) ∧ w'.cell? ⟨w.heap.size, 1, none⟩ = some (.int .u64 q)) ∧ (w'.cell? ⟨w2.heap.size, 0, none⟩ = some (.int .u64 c) ∧ w'.cell? ⟨w2.heap.size, 1, none⟩ = some (.int .u64 d)) ∧ w'.cell? ⟨w4.heap.size, 0, none⟩ = some (.int .u64 c) ∧ w'.cell? ⟨w4.heap.size, 1, none⟩ = some (.int .u64 d) from fun w' hb => by
    have e1 := (hb.block _ (heap_lt h50)).trans h50
    have e2 := (hb.block _ (heap_lt h52)).trans h52
    have e3 := (hb.block _ (heap_lt h55)).trans h55
    exact ⟨⟨cell_in e1 rfl, cell_in e1 rfl⟩, ⟨cell_in e2 rfl, cell_in e2 rfl⟩, cell_in e3 rfl, cell_in e3 rfl⟩)
  clear hw5 h55 b35 h52 h50 b4 HB3 HB2 HB1
  obtain ⟨X1, f, hX1, hf, hF⟩ := classOf (fun w' => (w'.cell? ⟨w.heap.size, 0, none⟩ = some (.int .u64 m) ∧ w'.cell? ⟨w.heap.size, 1, none⟩ = some (.int .u64 q)) ∧ (w'.cell? ⟨w2.heap.size, 0, none⟩ = some (.int .u64 c) ∧ w'.cell? ⟨w2.heap.size, 1, none⟩ = some (.int .u64 d)) ∧ w'.cell? ⟨w4.heap.size, 0, none⟩ = some (.int .u64 c) ∧ w'.cell? ⟨w4.heap.size, 1, none⟩ = some (.int .u64 d)) (w := w5) (HC.out w5 (Below.refl _ _))
  have f1 := fun x => (hf x).1.1
  have f2 := fun x => (hf x).1.2
  have f3 := fun x => (hf x).2.1.1
  have f4 := fun x => (hf x).2.1.2
  have f5 := fun x => (hf x).2.2.1
  have f6 := fun x => (hf x).2.2.2
  have HF1 := Lib.hid hF
  have HFa := Lib.hid (hF w5.drew (HC.out w5.drew (belowN (Below.refl _ _) 1)))
  clear hF hf
  refine wp_region_text ⟨[10, 12, 16], [17, 18], 16⟩ (fun w' => ∃ x : X1, w' = f x) (by kernel_rfl) (by kernel_rfl) HFa.out ?_
  refine wpC_seg false (HFa.out) 10 0 _ _ (by rfl) (by rfl) ?_
  simp only [List.take_succ_cons, List.take_zero, List.drop_succ_cons, List.drop_zero, Bool.false_eq_true, if_false, Nat.zero_add, Nat.reduceAdd]
  repeat (go_big_quiet_step (fail))
  refine wpQuiet_nil ?_
  refine wpC_loud (by rfl) (by rfl) fun K hK => ?_
  go_wp2_with fail
  refine (HT.out _ (belowN HB5.out 1)).mono ?_
  rintro e w6 ⟨rfl, b6⟩
  have HB6 := Lib.hid ((belowN (Below.refl w5.heap.size w5) 1).trans b6)
  have HF2 := Lib.hid (HF1.out w6 (HC.out w6 HB6.out))
  refine hK _ _ (fun _ => HF2.out) ?_
  clear hK b6
  refine wpC_seg false (HF2.out) 1 11 _ _ (by rfl) (by rfl) ?_
  simp only [List.take_succ_cons, List.take_zero, List.drop_succ_cons, List.drop_zero, Bool.false_eq_true, if_false, Nat.zero_add, Nat.reduceAdd]
  repeat (go_big_quiet_step (fail))
  refine wpQuiet_nil ?_
  refine wpC_loud (by rfl) (by rfl) fun K hK => ?_
  go_wp2_with fail
  refine (HU.out _).mono ?_
  rintro e w7 ⟨rfl, b7⟩
  have HB7 := Lib.hid (HB6.out.trans (b7.mono HB6.out.size))
  have HF3 := Lib.hid (HF1.out w7 (HC.out w7 HB7.out))
  refine hK _ _ (fun _ => HF3.out) ?_
  clear hK b7
  refine wpC_seg false (HF3.out) 3 13 _ _ (by rfl) (by rfl) ?_
  simp only [List.take_succ_cons, List.take_zero, List.drop_succ_cons, List.drop_zero, Bool.false_eq_true, if_false, Nat.zero_add, Nat.reduceAdd]
  repeat (go_big_quiet_step (fail))
  refine wpQuiet_nil ?_
  refine wpC_loud (by rfl) (by rfl) fun K hK => ?_
  go_wp2_with fail
  have HB8 := Lib.hid (HB5.out.trans (HB7.out.mono HB5.out.size))
  refine (HV.out _ HB8.out).mono ?_
  rintro e w8 ⟨rfl, b8⟩
  have HB9 := Lib.hid (HB8.out.trans (b8.mono HB8.out.size))
  refine hK _ _ (fun h => absurd h (by decide)) ?_
  clear hK b8
  refine wpC_segD 2 17 _ _ (by rfl) (by rfl) ?_
  simp only [List.take_succ_cons, List.take_zero, List.drop_succ_cons, List.drop_zero, if_true, Nat.zero_add, Nat.reduceAdd]
  repeat (go_big_quiet_step (fail))
  refine wpQuiet_nil ?_
  refine wpC_nil ?_
  clear f1 f2 f3 f4 f5 f6 hX1 HF1 HFa HF2 HF3 f
  go_wp2_with fail
  go_ret
  exact ⟨rfl, HB9.out⟩
end Go.Proofs.YtbjpfnafhhbmaaaDoor.Sad

/- The walks of StreamSpells and StreamNames as their rows want them. -/
namespace Go.Proofs.YtbjpfnafhhbmaaaDoor
set_option linter.unusedVariables false
open Go.RowKit
theorem u64_nat {a : Int} (h : (Lit.int .u64 a).wf = true) : ∃ n : Nat, a = n ∧ n < 18446744073709551616 := by
  have hx : 0 ≤ a ∧ a ≤ 18446744073709551615 := by simpa [Lit.wf, IntKind.min, IntKind.max, IntKind.signed, IntKind.bits] using h
  exact ⟨a.toNat, by omega, by omega⟩
theorem streamSpells_walk {w : World} (hl : Laid w) (a b : Int) (s : ByteArray) (ha : (Lit.int .u64 a).wf = true) (hb : (Lit.int .u64 b).wf = true) (hs : s.size ≤ 1048576) :
    Calls Tryd.prog 4 #[.agg #[.int .u64 a, .int .u64 b], .string s] w fun e w' => e = .returned (.bool true) ∧ Below w.heap.size w w' := by
  obtain ⟨m, rfl, hm⟩ := u64_nat ha
  obtain ⟨q, rfl, hq⟩ := u64_nat hb
  exact Sad.streamSpells_walk hl m q hm hq s (by omega)
theorem streamNames_walk {w : World} (hl : Laid w) (s : ByteArray) (n a b : Int) (hs : s.size ≤ 1048576) (hn : (Lit.int .u64 n).wf = true) (ha : (Lit.int .u64 a).wf = true) (hb : (Lit.int .u64 b).wf = true) :
    Calls Tryd.prog 3 #[.string s, .int .u64 n, .agg #[.int .u64 a, .int .u64 b]] w fun e w' => e = .returned (.bool true) ∧ Below w.heap.size w w' := by
  obtain ⟨k, rfl, hk⟩ := u64_nat hn
  obtain ⟨m, rfl, hm⟩ := u64_nat ha
  obtain ⟨q, rfl, hq⟩ := u64_nat hb
  exact Sad.streamNames_walk hl s (by omega) k hk m q hm hq
end Go.Proofs.YtbjpfnafhhbmaaaDoor

/- StreamSplits' walk as its row wants it. -/
namespace Go.Proofs.YtbjpfnafhhbmaaaDoor
set_option linter.unusedVariables false
open Go.RowKit Sad
theorem streamSplits_walk {w : World} (hl : Laid w) (a : Option Addr) (n c : Nat) (Q : List AskN) (x y : Int) (h : AskRow w a n c Q) (hn : n ≤ 1048576) (hq : ∀ A ∈ Q, ∀ p ∈ A.L, p.1.size + p.2.size ≤ 1048576) (hx : (Lit.int .u64 x).wf = true) (hy : (Lit.int .u64 y).wf = true) :
    Calls Tryd.prog 5 #[.slice a n c, .agg #[.int .u64 x, .int .u64 y]] w fun e w' => e = .returned (.bool true) ∧ Below w.heap.size w w' := by
  obtain ⟨m, rfl, hm⟩ := u64_nat hx
  obtain ⟨q, rfl, hq⟩ := u64_nat hy
  exact Sad.streamSplits_walk hl h (by omega) (t := (m, q)) ⟨hm, hq⟩
end Go.Proofs.YtbjpfnafhhbmaaaDoor

/- StreamRises' walk as its row wants it. -/
namespace Go.Proofs.YtbjpfnafhhbmaaaDoor
set_option linter.unusedVariables false
open Go.RowKit Sad
theorem streamRises_walk {w : World} (hl : Laid w) (a : Option Addr) (n c : Nat) (Q : List AskN) (x : Int) (h : AskRow w a n c Q) (hn : n ≤ 1048576) (hq : ∀ A ∈ Q, ∀ p ∈ A.L, p.1.size + p.2.size ≤ 1048576) (hx : (Lit.int .i64 x).wf = true) :
    Calls Tryd.prog 8 #[.slice a n c, .int .i64 x] w fun e w' => e = .returned (.bool true) ∧ Below w.heap.size w w' := by
  have hN : -9223372036854775808 ≤ x ∧ x ≤ 9223372036854775807 := by simpa [Lit.wf, IntKind.min, IntKind.max, IntKind.signed, IntKind.bits] using hx
  exact Sad.streamRises_walk hl h (by omega) hN.1 hN.2
end Go.Proofs.YtbjpfnafhhbmaaaDoor
