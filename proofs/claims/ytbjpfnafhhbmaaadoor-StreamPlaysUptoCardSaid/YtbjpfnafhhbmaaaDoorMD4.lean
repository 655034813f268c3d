/- Lemmas and walks for StreamPlays, part 4 of 5: the texts Reg2, Stm17, Stm18, Stm19, Stm20, Stm21, Stm22, Non1, Twn, Stm23, Duo, Duo2, Duo3, Duo4, Duo5. -/
import Derived.Test.YtbjpfnafhhbmaaaDoorMD1
import Derived.OrdersIn
import Derived.ControlIn
import Derived.Test.YtbjpfnafhhbmaaaDoorMD3
import Derived.Sort.CutIn
import Derived.Deep.Cut
/- Regions that draw their order inside a round of a range over a function: Reg's walk serves there too. -/
namespace Go.Proofs.YtbjpfnafhhbmaaaDoor
set_option linter.unusedVariables false
set_option linter.unusedSimpArgs false
/-- No 'defer'. -/
def noDefer (o : Oper) : Bool := match o.op with
  | .defer _ => false
  | .call _ | .go _ | .send .. | .recv .. | .select .. => true
  | _ => true
theorem noDefer_spec {o : Oper} (h : noDefer o = true) : ∀ c, o.op ≠ .defer c := by
  intro c hc
  unfold noDefer at h
  rw [hc] at h
  cases h
theorem rowsIn_wide' {n : Nat} {P : Program} {row : String} {args : Array Value} {w : World} {R : Value → World → Prop} {l : Nat} (h : Rows P row args w R) : RowsIn (Fence.wide.inRound l) n P row args w R := by
  intro c cs _
  obtain ⟨v, w', r, s⟩ := h c cs
  exact ⟨v, w', r, stepsIn_wide.2 s⟩
theorem callsIn_round {n : Nat} {P : Program} {f : FuncId} {args : Array Value} {w : World} {R : Ending → World → Prop} {l : Nat} (h : Calls P f args w R) : CallsIn (Fence.wide.inRound l) n P f args w R := callsIn_wide.2 h
section
variable {P : Program} {ops : Array Oper} {md : Region.Mode} {C : World → Prop} {Q : Act → World → Prop} {p : Plan}
theorem wpAnyIn_of_C {l n : Nat} {Q' : Exit → Act → World → Prop} (hnd : ∀ (i : Nat) (o : Oper), ops[i]? = some o → noDefer o = true) (hQ : ∀ a w, Q a w → Q' .normal a w) (hp : p.before md ops) : ∀ (fuel : Nat) (listed : Array Bool) (a : Act) (w : World), Closed md ops listed → listed.size = ops.size →
    wpAnyC P md ops p C Q fuel listed a w → wpAnyIn (Fence.wide.inRound l) n P md ops Q' fuel listed a w
  | 0, _, _, _, _, _, h => ⟨h.2.1, hQ _ _ h.2.2⟩
  | fuel + 1, listed, a, w, hcl, hsz, h => ⟨fun h0 => hQ _ _ (h.2.1 h0), fun i hi => by
      have h1 := h.2.2 i hi
      obtain ⟨hiun, o, ho, _⟩ := mem_ready.1 hi
      have next := fun a' w' => wpAnyIn_of_C (l := l) (n := n) hnd hQ hp fuel (listed.setIfInBounds i true) a' w' (hcl.set hi) (by simp [hsz])
      have hsem := Oper.semAt_eq (Fence.wide.inRound l).round a.eval o (noDefer_spec (hnd i o ho))
      unfold stepC at h1
      unfold wpOpIn
      simp only [ho] at h1 ⊢
      by_cases hl : p.L.contains i = true
      · simp only [hl, if_true] at h1
        unfold loudOp at h1
        split
        · rename_i hw
          simp only [hw, if_true] at h1
          unfold Oper.wp at h1
          unfold Oper.wpIn
          refine ⟨fun _ _ => trivial, ?_⟩
          rw [hsem]
          generalize (execOp a.eval o).run P w = r at *
          cases r with
          | ok n w' =>
            cases n <;> simp only [Oper.upon] at h1 <;> simp only [Oper.uponIn]
            case value u => exact next _ _ h1
            case skip => exact next _ _ h1
            case defer d => exact next _ _ h1
            case enter f args =>
              refine ⟨fun h => (by simp [Fence.wide] at h), CallsIn.mono (callsIn_round h1) fun e w'' he => ?_⟩
              cases e with
              | returned u => exact next _ _ he
              | panicked c => exact he.elim
              | outgrown => obtain ⟨_, _, he⟩ := he; exact he.elim
            case row row args => exact ⟨fun h => (by simp [Fence.wide] at h), RowsIn.mono (rowsIn_wide' h1) fun u w'' he => next _ _ he⟩
          | halt x w' => cases x <;> simp only [Oper.upon, QF] at h1
        · rename_i hw
          simp only [hw] at h1
          exact ⟨fun _ _ => trivial, next _ _ h1⟩
      · simp only [hl] at h1
        obtain ⟨v, hy, hK⟩ := h1
        have hiL : i ∉ p.L := by simpa using hl
        have hilt : i < ops.size := (Array.getElem?_eq_some_iff.1 ho).1
        have hc := cls_holds hp hcl hsz hiL hilt (unl hiun) h.1
        rcases hy with ⟨hw, hv⟩ | ⟨hw, rfl⟩
        · simp only [hw, if_true]
          unfold Oper.wpIn
          refine ⟨fun _ _ => trivial, ?_⟩
          rw [hsem]
          rcases hv w hc with hv1 | ⟨hv1, hu⟩
          · rw [hv1]; exact next _ _ hK
          · subst hu; rw [hv1]; exact next _ _ hK
        · simp only [hw, Bool.false_eq_true, if_false]; exact ⟨fun _ _ => trivial, next _ _ hK⟩⟩
/-- **A REGION THAT DRAWS ITS ORDER, INSIDE A ROUND, WALKED IN THE TEXT's ORDER.** -/
theorem wpIn_region_text {l0 n id : Nat} {Q' : Exit → Act → World → Prop} {a : Act} {w : World} {l : List Oper} (p : Plan) (C : World → Prop) (hm : P.follows .mixedOrders = true) (hB : p.okB .any l.toArray = true) (hnd : l.all noDefer = true)
    (hC : C w.drew) (h : wpC P l.toArray p C (fun a' w' => Q' .normal a' w') 0 l a w.drew) : (Code.region id l.toArray true).wpIn (Fence.wide.inRound l0) n P Q' a w := by
  simp only [Plan.okB, Region.lexB, Bool.and_eq_true, Bool.or_eq_true, decide_eq_true_eq, List.all_eq_true, List.mem_range] at hB
  obtain ⟨⟨⟨hs, hlex⟩, hm'⟩, hall⟩ := hB
  have hmL : p.m < l.toArray.size → p.m ∈ p.L := fun h1 => by
    rcases hm' with h2 | h2
    · omega
    · simpa using h2
  have hbef : p.before .any l.toArray := fun i hiL hiD hilt => by
    have h1 := hall i hilt
    simp only [show p.L.contains i = false by simpa using hiL, show p.D.contains i = false by simpa using hiD, Bool.false_eq_true, if_false, Bool.false_or, Bool.or_eq_true, decide_eq_true_eq, Bool.and_eq_true, bne_iff_ne] at h1
    rcases h1 with h1 | h1
    · exact .inl h1
    · exact .inr ⟨h1.1, depB_spec _ _ h1.2⟩
  have hord : ∀ k j, k ∈ p.L → j ∈ p.L → k < j → j < l.toArray.size → Dep .any l.toArray k j := fun k j hk hj hkj hjlt => by
    have h1 := hall j hjlt
    simp only [show p.L.contains j = true by simpa using hj, if_true, List.all_eq_true, Bool.or_eq_true, decide_eq_true_eq] at h1
    rcases h1 k hk with (h2 | h2) | h2
    · omega
    · omega
    · exact depB_spec _ _ h2
  have hcl : Closed Region.Mode.any l.toArray (Array.replicate l.toArray.size false) := fun j o _ hl' => by
    rcases Nat.lt_or_ge j l.toArray.size with h1 | h1 <;> simp_all
  refine wpIn_region_any hm (wpAnyIn_of_C (Q := fun a' w' => Q' .normal a' w') (p := p) (C := C) (fun i o ho => ?_) (fun _ _ h => h) hbef _ _ _ _ hcl (by simp) ?_)
  · have := List.all_eq_true.1 hnd o
    exact this (by
      have h1 := Array.mem_of_getElem? ho
      simpa using h1)
  have := wpAnyC_lex (C := C) hs hbef hmL hord l 0 (Array.replicate l.toArray.size false) a { w with drawn := w.drawn + 1 } (by simp) (by simp) hcl (by simp)
    (fun j hj => by simp_all) (by simpa using hlex) (fun _ => hC) h
  simpa using this
end
end Go.Proofs.YtbjpfnafhhbmaaaDoor

/- (*stream.Stream).Range. -/
namespace Go.Proofs.YtbjpfnafhhbmaaaDoor.Sad
open Go.Proofs.YtbjpfnafhhbmaaaDoor
set_option linter.unusedVariables false
set_option linter.unusedSimpArgs false
open Go.RowKit RT Go.Shelf
attribute [local go_sem] Oper.semAt_some
theorem cell_block {w : World} {b o : Nat} {v : Value} (h : w.cell? ⟨b, o, none⟩ = some v) : ∃ cs t fz, w.heap[b]? = some (.cells cs t fz) := by
  unfold World.cell? at h
  cases hh : w.heap[b]? with
  | none => simp [hh] at h
  | some x => cases x <;> simp [hh] at h ⊢
theorem PairRow.grown {W W' : World} {row : Option Nat} (hg : W.grownBy W' row) (hr : ∀ r, row = some r → ∃ o : Obj, W.heap[r]? = some o ∧ o.isCells = false) {a : Option Addr} {n c : Nat} {L : List PairT} (h : PairRow W a n c L) : PairRow W' a n c L := by
  refine ⟨h.1, h.2.1, h.2.2.imp id ?_⟩
  rintro ⟨b, o, e, hc⟩
  refine ⟨b, o, e, fun i hi => ?_⟩
  obtain ⟨cs, t, fz, hb⟩ := cell_block (hc i hi).1
  have hb' := grown_keep hg hr hb
  have e1 : ∀ x, W'.cell? ⟨b, x, none⟩ = W.cell? ⟨b, x, none⟩ := fun x => by unfold World.cell?; simp only [hb, hb']
  rw [e1, e1]
  exact hc i hi
theorem Rows2.grown {W W' : World} {Q : Nat → Prop} {row : Option Nat} (hg : W.grownBy W' row) (hr : ∀ r, row = some r → ∃ o : Obj, W.heap[r]? = some o ∧ o.isCells = false) : ∀ {xs : List Told} {es : List Ent}, Rows2 W Q xs es → Rows2 W' Q xs es
  | [], [], _ => trivial
  | x :: xs, e :: es, h => ⟨⟨h.1.1, PairRow.grown hg hr h.1.2.1, h.1.2.2⟩, Rows2.grown hg hr h.2⟩
  | [], _ :: _, h => h.elim
  | _ :: _, [], h => h.elim
theorem EntsOut.grown {W W' : World} {row : Option Nat} (hg : W.grownBy W' row) (hr : ∀ r, row = some r → ∃ o : Obj, W.heap[r]? = some o ∧ o.isCells = false) {n₀ : Nat} {v : Value} {E : List Ent} (h : EntsOut W n₀ v E) : EntsOut W' n₀ v E := by
  obtain ⟨Vs, h1, h2, h3⟩ := h
  exact ⟨Vs, grown_slice hg hr h1, Rows2.grown hg hr h2, h3⟩
theorem EntsOut.chg {w w' : World} {n₀ : Nat} {v : Value} {E : List Ent} (h : EntsOut w n₀ v E) {S : Nat → Prop} (hc : Chg S w w') (hs : ∀ b, n₀ ≤ b → ¬ S b) : EntsOut w' n₀ v E := by
  obtain ⟨Vs, h1, h2, h3⟩ := h
  exact ⟨Vs, h1.chg hc fun k hk => hs k (h1.block_lt hk).1, Rows2.chg hc (fun b hb => hs b hb.1) h2, h3⟩
theorem EntsOut.mono {w : World} {n₀ n₁ : Nat} {v : Value} {E : List Ent} (h : EntsOut w n₀ v E) (hn : n₁ ≤ n₀) : EntsOut w n₁ v E := by
  obtain ⟨Vs, h1, h2, h3⟩ := h
  exact ⟨Vs, h1.mono hn, Rows2.imp (fun b _ hb => ⟨Nat.le_trans hn hb.1, hb.2⟩) h2, h3⟩
theorem EntsOut.form {w : World} {n₀ : Nat} {v : Value} {E : List Ent} (h : EntsOut w n₀ v E) : ∃ a c, v = .slice a E.length c ∧ E.length ≤ c ∧ c ≤ maxLen := by
  obtain ⟨Vs, h1, h2, h3⟩ := h
  have := h1.form
  rw [h2.length] at this
  exact this
theorem EntsOut.vb {w : World} {n₀ : Nat} {v : Value} {E : List Ent} (h : EntsOut w n₀ v E) {g : Nat} (hg : vblock v = some g) : n₀ ≤ g ∧ g < w.heap.size ∧ ∃ cur fz, w.heap[g]? = some (.cells cur 39 fz) := by
  obtain ⟨Vs, h1, h2, h3⟩ := h
  refine ⟨(h1.block_lt hg).1, (h1.block_lt hg).2, ?_⟩
  obtain ⟨g', cap, cur, he, _, ⟨fz, _, hh⟩, _⟩ := h1.2.resolve_left (fun h => by rw [h.1] at hg; cases hg)
  rw [he] at hg
  cases hg
  exact ⟨cur, fz, hh⟩
theorem take_all {α : Type} {p : α → Bool} {m : Int} : ∀ (L : List α) (k : Nat), (∀ i (h : i < L.length), ((k + i : Nat) : Int) < m ∧ p L[i] = true) → (L.takeWhile p).take (m.toNat - k) = L
  | [], k, _ => by simp
  | x :: L, k, h => by
    have h0 := h 0 (by simp)
    have ih := take_all (p := p) (m := m) L (k + 1) fun i hi => by
      have := h (i + 1) (by simpa using hi)
      simpa [Nat.add_assoc, Nat.add_comm 1] using this
    rw [List.takeWhile_cons, if_pos (by simpa using h0.2)]
    have e : m.toNat - k = (m.toNat - (k + 1)) + 1 := by have := h0.1; omega
    rw [e, List.take_succ_cons, ih]
theorem take_pre {α : Type} {p : α → Bool} {m : Int} (rest : List α) (x : α) : ∀ (L : List α) (k : Nat), (∀ i (h : i < L.length), ((k + i : Nat) : Int) < m ∧ p L[i] = true) → (m ≤ ((k + L.length : Nat) : Int) ∨ p x = false) → ((L ++ x :: rest).takeWhile p).take (m.toNat - k) = L
  | [], k, _, hx => by
    rw [List.nil_append, List.takeWhile_cons]
    rcases hx with hx | hx
    · have e : m.toNat - k = 0 := by simp at hx; omega
      rw [e]; simp
    · rw [if_neg (by simp [hx])]; simp
  | y :: L, k, h, hx => by
    have h0 := h 0 (by simp)
    have ih := take_pre (p := p) (m := m) rest x L (k + 1) (fun i hi => by
      have := h (i + 1) (by simpa using hi)
      simpa [Nat.add_assoc, Nat.add_comm 1] using this) (by simpa [Nat.add_assoc, Nat.add_comm 1] using hx)
    rw [List.cons_append, List.takeWhile_cons, if_pos (by simpa using h0.2)]
    have e : m.toNat - k = (m.toNat - (k + 1)) + 1 := by have := h0.1; omega
    rw [e, List.take_succ_cons, ih]
/-- What Range has collected. -/
def GotE (w : World) (n₀ c d : Nat) (most : Int) {α : Type} (val : α → Told) (pre : List α) (W : World) : Prop :=
  Below n₀ w W ∧ n₀ + 6 ≤ W.heap.size ∧ (W.heap[n₀ + 1]? = some (.cells #[.int .u64 c, .int .u64 d] 24 (0, 0)) ∧ W.heap[n₀ + 1 + 1]? = some (.cells #[.int .i64 most] 3 (0, 0))) ∧
    (∃ v, W.heap[n₀ + 1 + 1 + 1]? = some (.cells #[v] 34 (0, 0)) ∧ EntsOut W (n₀ + 6) v (pre.map fun x => entOf w (val x))) ∧ ∀ i (h : i < pre.length), (i : Int) < most ∧ (!lessN (c, d) (idT2 (val pre[i]))) = true
theorem GotE.own {w : World} {n₀ c d : Nat} {most : Int} {α : Type} {val : α → Told} {B : Nat} (hB : n₀ ≤ B) : OwnFrom B (GotE w n₀ c d most val) := by
  rintro pre W W' row ⟨h1, h2, ⟨h3, h4⟩, ⟨v, h5, h6⟩, h7⟩ hg hr
  exact ⟨grown_below h1 hg (fun r e => (hr r e).1) hB (by omega), Nat.le_trans h2 hg.size, ⟨grown_keep hg (fun r e => (hr r e).2) h3, grown_keep hg (fun r e => (hr r e).2) h4⟩, ⟨v, grown_keep hg (fun r e => (hr r e).2) h5, h6.grown hg fun r e => (hr r e).2⟩, h7⟩
/-- .. and stopped. -/
def StopE (w : World) (n₀ c d : Nat) (most : Int) {α : Type} (val : α → Told) (cd : Code) (ys : List α) (W : World) : Prop :=
  cd = .exit 0 ∧ ∃ pre x, ys = pre ++ [x] ∧ GotE w n₀ c d most val pre W ∧ (most ≤ (pre.length : Int) ∨ (!lessN (c, d) (idT2 (val x))) = false)
theorem StopE.own {w : World} {n₀ c d : Nat} {most : Int} {α : Type} {val : α → Told} {cd : Code} {B : Nat} (hB : n₀ ≤ B) : OwnFrom B (StopE w n₀ c d most val cd) := by
  rintro ys W W' row ⟨h0, pre, x, h1, h2, h3⟩ hg hr
  exact ⟨h0, pre, x, h1, GotE.own hB pre W W' row h2 hg hr, h3⟩
/-- The frame of a round. -/
def AxE (tm : Array Value) (x : Told) (a' : Act) (W : World) : Prop :=
  ∃ Bx, W.heap[Bx]? = some (.cells #[.int .u64 x.1, .int .u64 x.2.1] 24 (0, 0)) ∧ a' = { tmps := (((tm.setIfInBounds 21 (.agg #[.int .u64 x.1, .int .u64 x.2.1])).setIfInBounds 22 (vC x.2.2)).setIfInBounds 10 (.pointer (some ⟨Bx, 0, none⟩))).setIfInBounds 11 (vC x.2.2), defers := [] }
theorem AxE.own (tm : Array Value) (x : Told) (a' : Act) (B : Nat) : OwnFrom B (fun (_ : Unit) W => AxE tm x a' W) := by
  rintro _ W W' row ⟨Bx, h1, h2⟩ hg hr
  exact ⟨Bx, grown_keep hg (fun r e => (hr r e).2) h1, h2⟩
set_option maxHeartbeats 3200000 in
set_option maxRecDepth 100000 in
theorem stmRange {w : World} {s p : Nat} {G : Nat → Prop} {T : Option RT} {n ms q : Nat} (h : StmF w s p G T n ms q) {Q : Nat → Prop} {E : List Ent} (hE : Rows2 w Q (toldL T (idBytes 0 0)) E) (hnodes : nodesO T ≤ 1000000) {a b c d : Nat} (ha : a < 18446744073709551616) (hb : b < 18446744073709551616) {most : Int} :
    Calls Tryd.prog 15 #[ptrV s, .agg #[.int .u64 a, .int .u64 b], .agg #[.int .u64 c, .int .u64 d], .int .i64 most] w fun e w' => ∃ v, e = .returned v ∧ EntsOut w' w.heap.size v (((E.filter fun e => !lessN e.1 (a, b)).takeWhile fun e => !lessN (c, d) e.1).take most.toNat) ∧ Below w.heap.size w w' := by
  obtain ⟨w1, hw1⟩ : ∃ w1, w1 = (((w.alloc (.cells #[.int .u64 a, .int .u64 b] 24)).alloc (.cells #[.int .u64 c, .int .u64 d] 24)).alloc (.cells #[.int .i64 most] 3)).alloc (.cells #[.slice none 0 0] 34) := ⟨_, rfl⟩
  have hs1 : w1.heap.size = w.heap.size + 4 := by rw [hw1]; simp
  have hb1 : Below w.heap.size w w1 := by rw [hw1]; exact ((((Below.refl _ _).alloc (Nat.le_refl _) _).alloc (by simp) _).alloc (by simp; omega) _).alloc (by simp; omega) _
  have k5 : w1.heap[w.heap.size]? = some (.cells #[.int .u64 a, .int .u64 b] 24 (0, 0)) := by rw [hw1]; exact heap_old (heap_old (heap_old (heap_new _ _) _) _) _
  have k6 : w1.heap[w.heap.size + 1]? = some (.cells #[.int .u64 c, .int .u64 d] 24 (0, 0)) := by
    rw [hw1]
    have := heap_new (w.alloc (.cells #[.int .u64 a, .int .u64 b] 24)) (.cells #[.int .u64 c, .int .u64 d] 24)
    rw [World.size_alloc] at this
    exact heap_old (heap_old this _) _
  have k7 : w1.heap[w.heap.size + 1 + 1]? = some (.cells #[.int .i64 most] 3 (0, 0)) := by
    rw [hw1]
    have := heap_new ((w.alloc (.cells #[.int .u64 a, .int .u64 b] 24)).alloc (.cells #[.int .u64 c, .int .u64 d] 24)) (.cells #[.int .i64 most] 3)
    rw [World.size_alloc, World.size_alloc] at this
    exact heap_old this _
  have k9 : w1.heap[w.heap.size + 1 + 1 + 1]? = some (.cells #[.slice none 0 0] 34 (0, 0)) := by
    rw [hw1]
    have := heap_new (((w.alloc (.cells #[.int .u64 a, .int .u64 b] 24)).alloc (.cells #[.int .u64 c, .int .u64 d] 24)).alloc (.cells #[.int .i64 most] 3)) (.cells #[.slice none 0 0] 34)
    rw [World.size_alloc, World.size_alloc, World.size_alloc] at this
    exact this
  have h1 := h.below hb1
  have HT := Lib.hid (stmThere h1)
  obtain ⟨w3, hw3⟩ : ∃ w3, w3 = ((w1.drewN 1).alloc (.cells #[.pointer (some ⟨p, 0, none⟩)] 51)).alloc (.cells #[.int .u64 a, .int .u64 b] 24) := ⟨_, rfl⟩
  have hb13 : Below w1.heap.size w1 w3 := by rw [hw3]; exact ((belowN (Below.refl _ _) 1).alloc (Nat.le_refl _) _).alloc (by simp) _
  have hb3 : Below w.heap.size w w3 := hb1.trans (hb13.mono hb1.size)
  have hs3 : w3.heap.size = w.heap.size + 6 := by rw [hw3]; simp [hs1]
  have hbt3 : w3.cell? ⟨w1.heap.size, 0, none⟩ = some (.pointer (some ⟨p, 0, none⟩)) := by rw [hw3]; exact cell_in (heap_old (heap_new _ _) _) rfl
  have hbi3 : w3.heap[w1.heap.size + 1]? = some (.cells #[.int .u64 a, .int .u64 b] 24 (0, 0)) := by
    rw [hw3]
    have := heap_new ((w1.drewN 1).alloc (.cells #[.pointer (some ⟨p, 0, none⟩)] 51)) (.cells #[.int .u64 a, .int .u64 b] 24)
    rw [World.size_alloc] at this
    exact this
  have HF := Lib.hid (show Calls Tryd.prog 36 #[.pointer (some ⟨p, 0, none⟩), .agg #[.int .u64 a, .int .u64 b]] (w1.drewN 1) fun e w' => e = .returned (.func (.func 60) #[] #[.pointer (some ⟨w1.heap.size, 0, none⟩), .pointer (some ⟨w1.heap.size + 1, 0, none⟩)]) ∧ w' = w3 by rw [hw3]; exact radFrom (w1.drewN 1) p a b)
  have HSeq := Lib.hid (radStopsM (h.tree.below hb3) ha hb hbt3 hbi3 hnodes 2)
  obtain ⟨Tl, hTl⟩ : ∃ Tl, toldL T (idBytes a b) = Tl := ⟨_, rfl⟩
  rw [hTl] at HSeq
  have hTl2 : Tl = (toldL T (idBytes 0 0)).filter fun x => !lessN (idT2 x) (a, b) := by rw [← hTl]; exact told_from h.tree.wf ha hb
  have hEl : (E.filter fun e => !lessN e.1 (a, b)) = Tl.map (entOf w) := by
    rw [hTl2]
    exact (Rows2.filter (p := fun e => !lessN e.1 (a, b)) hE).ents
  have HEl := Lib.hid hEl
  have HRow := Lib.hid (show ∀ x ∈ Tl, PairRow w x.2.2.1 x.2.2.2.1 x.2.2.2.2 (entOf w x).2 ∧ 0 < x.2.2.2.1 ∧ x.2.2.2.1 ≤ 4000000000000 from fun x hx => by
    rw [hTl2] at hx
    obtain ⟨e, _, hr⟩ := hE.mem x (List.mem_filter.1 hx).1
    rw [hr.ent]
    exact ⟨hr.2.1, hr.2.2.1⟩)
  have hN : Tl.length ≤ 1000000 := by
    have h1 := List.length_filter_le (fun p : List UInt8 × VT => !decide (p.1 < idBytes a b)) (itemsO T)
    have h2 := (nodesO_le h.tree.wf).2.1
    rw [← hTl]
    unfold toldL fromL
    rw [List.length_map]
    omega
  have HN := Lib.hid hN
  have HC := Lib.hid (show ∀ w', Below w1.heap.size w1 w' → w'.cell? ⟨s, 0, none⟩ = some (ptrV p) ∧ w'.cell? ⟨w.heap.size, 0, none⟩ = some (.int .u64 a) ∧ w'.cell? ⟨w.heap.size, 1, none⟩ = some (.int .u64 b) from fun w' hb => by
    have e1 := (hb.block _ (heap_lt h1.head)).trans h1.head
    have e2 := (hb.block _ (heap_lt k5)).trans k5
    exact ⟨cell_in e1 rfl, cell_in e2 rfl, cell_in e2 rfl⟩)
  have HW1 := Lib.hid hw1
  have HS1 := Lib.hid hs1
  have HS3 := Lib.hid hs3
  have HB3 := Lib.hid hb3
  have HK := Lib.hid (And.intro ((hb13.block _ (heap_lt k6)).trans k6) (And.intro ((hb13.block _ (heap_lt k7)).trans k7) ((hb13.block _ (heap_lt k9)).trans k9)))
  have HG0 := Lib.hid (show GotE w w.heap.size c d most (fun x : { x // x ∈ Tl } => x.1) [] w3 from
    ⟨hb3, by omega, ⟨(hb13.block _ (heap_lt k6)).trans k6, (hb13.block _ (heap_lt k7)).trans k7⟩, ⟨_, (hb13.block _ (heap_lt k9)).trans k9, EntsOut.nil _ _⟩, fun i h => absurd h (by simp)⟩)
  obtain ⟨tm, htm⟩ : ∃ tm : Array Value, tm = #[.pointer (some ⟨s, 0, none⟩), .agg #[.int .u64 a, .int .u64 b], .agg #[.int .u64 c, .int .u64 d], .int .i64 most, undef, .pointer (some ⟨w.heap.size, 0, none⟩), .pointer (some ⟨w.heap.size + 1, 0, none⟩), .pointer (some ⟨w.heap.size + 1 + 1, 0, none⟩), .slice none 0 0, .pointer (some ⟨w.heap.size + 1 + 1 + 1, 0, none⟩), undef, undef, .pointer (some ⟨s, 0, none⟩), .bool true, .bool false, .pointer (some ⟨s, 0, none⟩), .pointer (some ⟨s, 0, none⟩), .pointer (some ⟨s, 0, none⟩), .pointer (some ⟨p, 0, none⟩), .agg #[.int .u64 a, .int .u64 b], .func (.func 60) #[] #[.pointer (some ⟨w1.heap.size, 0, none⟩), .pointer (some ⟨w1.heap.size + 1, 0, none⟩)], undef, undef, undef, undef, undef, undef, undef, undef, undef, undef, undef, undef, undef, undef, undef, undef, undef, undef, undef] := ⟨_, rfl⟩
  have HTm := Lib.hid htm
  have c0 := HC.out w1.drew (belowN (Below.refl _ _) 1)
  obtain ⟨X1, f, hX1, hf, hF⟩ := classOf (fun w' => w'.cell? ⟨s, 0, none⟩ = some (ptrV p) ∧ w'.cell? ⟨w.heap.size, 0, none⟩ = some (.int .u64 a) ∧ w'.cell? ⟨w.heap.size, 1, none⟩ = some (.int .u64 b)) (w := w1.drew) c0
  have f1 := fun x => (hf x).1
  have f2 := fun x => (hf x).2.1
  have f3 := fun x => (hf x).2.2
  have HFa := Lib.hid (hF w1.drew c0)
  clear htm hF hf h h1 hE hnodes hw1 hs1 hb1 k5 k6 k7 k9 hw3 hb13 hb3 hs3 hbt3 hbi3 c0 hTl hTl2 hEl hN
  unfold ptrV at *
  refine callsIn_wide.1 (callsIn_of_wp_marks (n := 3) Tryd.func15 rfl trivial ?_ rfl)
  refine wpIn_wide.2 ?_
  simp only [Tryd.ntmps15, List.size_toArray, List.length_cons, List.length_nil, Nat.reduceAdd, Nat.reduceSub, Array.replicate_succ, Array.replicate_zero, List.push_toArray, List.append_toArray, List.nil_append, List.cons_append]
  go_wp2_with fail
  rw [← HW1.out]
  refine HT.out.mono ?_
  rintro e w' ⟨rfl, hww⟩
  rw [hww]
  clear hww w'
  go_upto_region 4 with (fail)
  refine wp_region_text ⟨[5], [], 5⟩ (fun w' => ∃ x : X1, w' = f x) (by kernel_rfl) (by kernel_rfl) HFa.out ?_
  refine wpC_seg false (HFa.out) 5 0 _ _ (by rfl) (by rfl) ?_
  simp only [List.take_succ_cons, List.take_zero, List.drop_succ_cons, List.drop_zero, Bool.false_eq_true, if_false, Nat.zero_add, Nat.reduceAdd]
  repeat (go_big_quiet_step (fail))
  refine wpQuiet_nil ?_
  refine wpC_loud (by rfl) (by rfl) fun K hK => ?_
  go_wp2_with fail
  refine HF.out.mono ?_
  rintro e w3' ⟨rfl, hww⟩
  rw [hww]
  refine hK _ _ (fun h => absurd h (by decide)) ?_
  clear hK hww w3' HF
  refine wpC_nil ?_
  clear f1 f2 f3 hX1 HFa f
  go_wp2_with fail
  refine (wpIn_wide (n := 3)).1 ?_
  refine wpIn_rangeFunc_ownH (α := { x // x ∈ Tl }) (F := Fence.wide) rfl (by omega) (gf := 60) (lb := #[.pointer (some ⟨w1.heap.size, 0, none⟩), .pointer (some ⟨w1.heap.size + 1, 0, none⟩)]) rfl trivial (fun args w => rfl) HSeq.out KeepE.trans (fun W l o o' _ hl ho _ => KeepE.putObj W l o o' hl ho) (Below.refl _ _) (fun _ => rfl)
    (GotE w w.heap.size c d most (fun x : { x // x ∈ Tl } => x.1)) (StopE w w.heap.size c d most (fun x : { x // x ∈ Tl } => x.1)) (GotE.own (by have := HS3.out; omega)) (fun _ => StopE.own (by have := HS3.out; omega)) HG0.out (fun x => AxE tm x.1) (fun x a' => AxE.own tm x.1 a' _) ?assign ?body ?done ?stop
  case stop =>
    rintro D cd ys W hD hp ⟨rfl, pre, x, rfl, hI, hs⟩ hK
    have hres : pre.map (fun x : { x // x ∈ Tl } => entOf w x.1) = ((E.filter fun e => !lessN e.1 (a, b)).takeWhile fun e => !lessN (c, d) e.1).take most.toNat := by
      obtain ⟨rest, hrest⟩ := hp
      have hT : Tl.map (entOf w) = (pre.map fun x : { x // x ∈ Tl } => entOf w x.1) ++ entOf w x.1 :: rest.map (entOf w) := by
        have := congrArg (List.map (entOf w)) hrest
        rw [← this]
        simp [List.map_append, Function.comp_def]
      rw [HEl.out, hT]
      have h1 := take_pre (p := fun e : Ent => !lessN (c, d) e.1) (m := most) (rest.map (entOf w)) (entOf w x.1) (pre.map (fun x : { x // x ∈ Tl } => entOf w x.1)) 0 (fun i hi => by
        have := hI.2.2.2.2 i (by simpa using hi)
        simp only [Nat.zero_add, List.getElem_map]
        exact this) (by rw [Nat.zero_add, List.length_map]; exact hs)
      rw [Nat.sub_zero] at h1
      exact h1.symm
    have HR := Lib.hid hres
    obtain ⟨i1, i2, i3, ⟨v, i4, i5⟩, i6⟩ := hI
    have l0 := cell_in i4 (i := 0) rfl
    have HI := Lib.hid (And.intro i1 (And.intro i2 i5))
    clear i1 i2 i3 i4 i5 i6 hs hp hres
    refine wpIn_exit ?_
    go_wp2_with fail
    refine ⟨by simp, .inl ⟨_, _, rfl, run_takeDeferred hK, ?_⟩⟩
    refine ⟨_, results_tmp rfl _ _ _, ?_⟩
    obtain ⟨i1, i2, i5⟩ := HI.out
    have hg := grownBy_putObj' W D (.deferred none)
    have hr : ∀ r, some D = some r → ∃ o : Obj, W.heap[r]? = some o ∧ o.isCells = false := fun r e => by cases e; exact ⟨_, hK, rfl⟩
    refine ⟨_, rfl, ?_, grown_below i1 hg (fun r e => by cases e; have := HS3.out; omega) (Nat.le_refl _) (by omega)⟩
    rw [← HR.out]
    exact (i5.grown hg hr).mono (by omega)
  case assign =>
    intro l pre x W K hI hK
    have HI := Lib.hid hI
    unfold encs
    clear hI
    gi_wp2
    refine hK _ _ ((KeepsOthers.alloc _ _).from _) ?_ ?_ ⟨W.heap.size, heap_new _ _, ?_⟩
    · exact KeepE.chg (S := fun _ => False) (Chg.alloc _ _ _) fun _ _ _ h => h.elim
    · exact (GotE.own (Nat.le_refl _)).alloc _ HI.out
    · rw [HTm.out]; rfl
  case body =>
    rintro l pre ⟨⟨xm, xq, av, nv, cv⟩, hx⟩ a' W _ _ hI ⟨Bx, hBx, rfl⟩ hlen
    have HI := Lib.hid hI
    obtain ⟨i1, i2, ⟨i3, i3'⟩, ⟨v, i4, i5⟩, i6⟩ := hI
    obtain ⟨ao, co, rfl, hco, hcm⟩ := i5.form
    rw [List.length_map] at i4 hco i5
    dsimp only at hBx
    have x0 := cell_in hBx (i := 0) rfl
    have x1 := cell_in hBx (i := 1) rfl
    have l0 := cell_in i4 (i := 0) rfl
    have l1 := cell_in i3' (i := 0) rfl
    have l2 := cell_in i3 (i := 0) rfl
    have l3 := cell_in i3 (i := 1) rfl
    have hN := HN.out
    have hrow := HRow.out _ hx
    obtain ⟨L, hL⟩ : ∃ L, (entOf w (xm, xq, av, nv, cv)).2 = L := ⟨_, rfl⟩
    rw [hL] at hrow
    dsimp only at hrow
    have hent : entOf w (xm, xq, av, nv, cv) = ((xm, xq), L) := by rw [← hL]; rfl
    have HBl := Lib.hid (fun w' => stmBelow c d xm xq w')
    have HI5 := Lib.hid (And.intro i1 (And.intro i2 (And.intro i5 (And.intro i4 (And.intro hBx (And.intro hco hcm))))))
    have HRw := Lib.hid (And.intro hrow hent)
    have HLen := Lib.hid hlen
    have HStop := Lib.hid (show ∀ W', Below W.heap.size W W' → (most ≤ (pre.length : Int) ∨ lessN (c, d) (xm, xq) = true) → ownPostG w3.heap.size KeepE (GotE w w.heap.size c d most (fun x : { x // x ∈ Tl } => x.1)) (StopE w w.heap.size c d most (fun x : { x // x ∈ Tl } => x.1)) (pre ++ [⟨(xm, xq, av, nv, cv), hx⟩]) W (.exit 0) { tmps := #[], defers := [] } W' from fun W' hb hs => by
      refine ⟨keepsFrom_of (S := fun _ => False) _ (Chg.of_below _ hb) fun k hk => hk.elim, rfl, pre, ⟨(xm, xq, av, nv, cv), hx⟩, rfl, ?_, hs.imp id fun h => by rw [show idT2 (xm, xq, av, nv, cv) = (xm, xq) from rfl, h]; rfl⟩
      exact GotE.own (Nat.le_refl _) pre W W' none HI.out (grown_of hb) fun r e => by cases e)
    obtain ⟨y, hy⟩ : ∃ y, lessN (c, d) (xm, xq) = y := ⟨_, rfl⟩
    rw [hy] at HBl
    rw [HTm.out]
    clear i1 i2 i3 i3' i4 i5 i6 hBx hrow hL hent hlen hN hco hcm
    simp only [List.setIfInBounds_toArray, List.set_cons_succ, List.set_cons_zero, vC]
    by_cases hm : most ≤ (pre.length : Int)
    · have e1 : decide (most ≤ (pre.length : Int)) = true := decide_eq_true hm
      have HSt := Lib.hid (HStop.out W (Below.refl _ _) (.inl hm))
      clear hm hy
      gi_wp2_with fail
      refine ⟨trivial, ?_⟩
      gi_wp2_with fail
      exact HSt.out
    · have e1 : decide (most ≤ (pre.length : Int)) = false := decide_eq_false hm
      have HM := Lib.hid (And.intro hm hy)
      clear hm hy
      gi_wp2_with fail
      refine ⟨trivial, (callsIn_round (HBl.out W)).mono ?_⟩
      rintro e W2 ⟨rfl, b2⟩
      have HB2 := Lib.hid b2
      clear b2 x0 x1 l0 l1 l2 l3
      cases y
      case' true =>
        have HSt := Lib.hid (HStop.out W2 HB2.out (.inr HM.out.2))
        gi_wp2_with fail
        exact HSt.out
      case' false =>
        have hbb : Below w.heap.size w (W2.drewN 1) := HI5.out.1.trans ((belowN HB2.out 1).mono (by have := HI5.out.2.1; omega))
        have hWsz := HB2.out.size
        have h4 := (HB2.out.block _ (heap_lt HI5.out.2.2.2.1)).trans HI5.out.2.2.2.1
        have hBx2 := (HB2.out.block _ (heap_lt HI5.out.2.2.2.2.1)).trans HI5.out.2.2.2.2.1
        have hrow2 := HRw.out.1.1.below hbb
        have HCl := Lib.hid (clone_any hrow2 HRw.out.1.2.1 HRw.out.1.2.2)
        have HC2 := Lib.hid (show ∀ w', Below W2.heap.size W2 w' → w'.cell? ⟨w.heap.size + 1 + 1 + 1, 0, none⟩ = some (.slice ao pre.length co) ∧ w'.cell? ⟨Bx, 0, none⟩ = some (.int .u64 xm) ∧ w'.cell? ⟨Bx, 1, none⟩ = some (.int .u64 xq) from fun w' hb => by
          have e1 := (hb.block _ (heap_lt h4)).trans h4
          have e2 := (hb.block _ (heap_lt hBx2)).trans hBx2
          exact ⟨cell_in e1 rfl, cell_in e2 rfl, cell_in e2 rfl⟩)
        have c0 := HC2.out W2.drew (belowN (Below.refl _ _) 1)
        obtain ⟨X1, f, hX1, hf, hF⟩ := classOf (fun w' => w'.cell? ⟨w.heap.size + 1 + 1 + 1, 0, none⟩ = some (.slice ao pre.length co) ∧ w'.cell? ⟨Bx, 0, none⟩ = some (.int .u64 xm) ∧ w'.cell? ⟨Bx, 1, none⟩ = some (.int .u64 xq)) (w := W2.drew) c0
        have f1 := fun x => (hf x).1
        have f2 := fun x => (hf x).2.1
        have f3 := fun x => (hf x).2.2
        have HF1 := Lib.hid hF
        have HFa := Lib.hid (hF W2.drew c0)
        have HH4 := Lib.hid (And.intro h4 hbb)
        clear hF hf hbb hWsz h4 hBx2 hrow2 c0
        gi_upto_region 8 with (fail)
        refine wpIn_region_text ⟨[3, 5, 6, 7], [4], 6⟩ (fun w' => ∃ x : X1, w' = f x) (by kernel_rfl) (by kernel_rfl) (by kernel_rfl) HFa.out ?_
        refine wpC_seg false (HFa.out) 3 0 _ _ (by rfl) (by rfl) ?_
        simp only [List.take_succ_cons, List.take_zero, List.drop_succ_cons, List.drop_zero, Bool.false_eq_true, if_false, Nat.zero_add, Nat.reduceAdd]
        repeat (go_big_quiet_step (fail))
        refine wpQuiet_nil ?_
        refine wpC_loud (by rfl) (by rfl) fun K hK => ?_
        go_wp2_with fail
        refine HCl.out.mono ?_
        rintro e W3 ⟨b, c', rfl, hpr, hbge, b3⟩
        have HB3' := Lib.hid ((belowN (Below.refl W2.heap.size W2) 1).trans b3)
        have HF3 := Lib.hid (HF1.out W3 (HC2.out W3 HB3'.out))
        have HPr := Lib.hid (And.intro hpr hbge)
        refine hK _ _ (fun _ => HF3.out) ?_
        clear hK hpr hbge b3 HCl
        refine wpC_seg true (HF3.out) 1 4 _ _ (by rfl) (by rfl) ?_
        simp only [List.take_succ_cons, List.take_zero, List.drop_succ_cons, List.drop_zero, if_true, Nat.zero_add, Nat.reduceAdd]
        repeat (go_big_quiet_step (fail))
        refine wpQuiet_nil ?_
        refine wpC_loud (by rfl) (by rfl) fun K hK => ?_
        go_wp2_with fail
        obtain ⟨W4, hW4⟩ : ∃ W4, W4 = W3.alloc (.cells #[.int .u64 xm, .int .u64 xq, .slice (some ⟨b, 0, none⟩) nv c'] 39) := ⟨_, rfl⟩
        rw [← hW4]
        have hb24 : Below W2.heap.size W2 W4 := by rw [hW4]; exact HB3'.out.alloc HB3'.out.size _
        have HF4 := Lib.hid (HF1.out W4 (HC2.out W4 hb24))
        have hW03 : Below W.heap.size W W3 := HB2.out.trans (HB3'.out.mono HB2.out.size)
        have hxr : RowIs W3 (fun k => W.heap.size ≤ k) (xm, xq, some ⟨b, 0, none⟩, nv, c') ((xm, xq), L) :=
          ⟨rfl, HPr.out.1, HRw.out.1.2, b, rfl, Nat.le_trans HB2.out.size HPr.out.2⟩
        obtain ⟨v', W5, hr, o5, c5, hv5⟩ := HI5.out.2.2.1.append hW03 (by have := HI5.out.2.1; omega) hxr (by rw [List.length_map]; have := HLen.out; have := HN.out; omega)
        obtain ⟨ax, ln, cx, rfl⟩ : ∃ ax ln cx, v' = .slice ax ln cx := by obtain ⟨ax, cx, e, _⟩ := o5.form; exact ⟨_, _, _, e⟩
        have hr' : (Builtin.append_ #[34, 34] 34 #[.slice ao pre.length co, .slice (some ⟨W3.heap.size, 0, none⟩) 1 1]).run Tryd.prog W4 = .ok (.slice ax ln cx) W5 := by rw [hW4]; exact hr
        have HR := Lib.hid hr'
        have hne : ∀ k, vblock (.slice ao pre.length co) = some k → k ≠ w.heap.size + 1 + 1 + 1 := fun k hk => by have := (HI5.out.2.2.1.vb hk).1; omega
        have h43 := (hW03.block _ (heap_lt HI5.out.2.2.2.1)).trans HI5.out.2.2.2.1
        have h45 := c5.keep h43 fun hk => hne _ hk rfl
        have q0 := cell_in h45 (i := 0) rfl
        have q1 := frozen_in h45 0
        obtain ⟨W6, hW6⟩ : ∃ W6, W6 = W5.setCell ⟨w.heap.size + 1 + 1 + 1, 0, none⟩ (.slice ax ln cx) := ⟨_, rfl⟩
        have h46 : W6.heap[w.heap.size + 1 + 1 + 1]? = some (.cells #[.slice ax ln cx] 34 (0, 0)) := by rw [hW6]; exact setCell_head h45 0 _
        have c56 : Chg (fun k => k = w.heap.size + 1 + 1 + 1) W5 W6 := by rw [hW6]; exact Chg.setCell _ _ _ _ rfl
        have cAll : Chg (fun k => vblock (.slice ao pre.length co) = some k ∨ k = w.heap.size + 1 + 1 + 1) W W6 := (((Chg.of_below _ hW03).trans c5 fun k hk _ => hk).mono fun k hk _ => .inl hk).trans c56 fun k hk _ => .inr hk
        have HFin := Lib.hid (show ownPostG w3.heap.size KeepE (GotE w w.heap.size c d most (fun x : { x // x ∈ Tl } => x.1)) (StopE w w.heap.size c d most (fun x : { x // x ∈ Tl } => x.1)) (pre ++ [⟨(xm, xq, av, nv, cv), hx⟩]) W .normal { tmps := #[], defers := [] } W6 from by
          have hI := HI.out
          refine ⟨keepsFrom_of _ cAll fun k hk o ho => ?_, KeepE.chg cAll fun k cs fz hk he => ?_, belowChg HI5.out.1 cAll (by have := HI5.out.2.1; omega) fun k hk _ => ?_, Nat.le_trans HI5.out.2.1 cAll.size, ⟨cAll.keep hI.2.2.1.1 ?_, cAll.keep hI.2.2.1.2 ?_⟩, ⟨_, h46, ?_⟩, fun i hi => ?_⟩
          · rcases hk with hk | rfl
            · obtain ⟨_, _, cur, fz, hh⟩ := HI5.out.2.2.1.vb hk
              rw [hh] at ho; cases ho; rfl
            · rw [HI5.out.2.2.2.1] at ho; cases ho; rfl
          · rcases hk with hk | rfl
            · obtain ⟨_, _, cur, fz', hh⟩ := HI5.out.2.2.1.vb hk
              rw [hh] at he; cases he
            · rw [HI5.out.2.2.2.1] at he; cases he
          · rcases hk with hk | rfl
            · have := (HI5.out.2.2.1.vb hk).1; omega
            · omega
          · rintro (hk | hk)
            · have := (HI5.out.2.2.1.vb hk).1; omega
            · omega
          · rintro (hk | hk)
            · have := (HI5.out.2.2.1.vb hk).1; omega
            · omega
          · have := o5.chg c56 fun k hk e => by omega
            rw [List.map_append]
            simp only [List.map_cons, List.map_nil]
            rw [HRw.out.2]
            exact this
          · rw [List.length_append, List.length_singleton] at hi
            rcases Nat.lt_or_ge i pre.length with h' | h'
            · rw [List.getElem_append_left h']
              exact hI.2.2.2.2 i h'
            · obtain rfl : i = pre.length := by omega
              have hmm := HM.out.1
              have hmy := HM.out.2
              simp only [List.getElem_append_right (Nat.le_refl _), Nat.sub_self, List.getElem_singleton]
              refine ⟨by omega, ?_⟩
              show (!lessN (c, d) (xm, xq)) = true
              rw [hmy]; rfl)
        have HW6 := Lib.hid hW6
        refine hK _ _ (fun _ => HF4.out) ?_
        clear hK hW4 hb24 hW03 hxr hr o5 c5 hv5 hr' hne h43 h45 hW6 h46 c56 cAll
        refine wpC_value (by rfl) (by rfl) (exec_append rfl HR.out) (fun h => absurd h (by decide)) ?_
        simp only [Act.put, List.setIfInBounds_toArray, List.set_cons_succ, List.set_cons_zero]
        clear f1 f2 f3 HF1 HFa HF3 HF4
        refine wpC_loud (by rfl) (by rfl) fun K hK => ?_
        go_wp2_with fail
        rw [← HW6.out]
        refine hK _ _ (fun h => absurd h (by decide)) ?_
        clear hK
        refine wpC_nil ?_
        exact HFin.out
  case done =>
    rintro D xs W hD hxs hI hK
    have hres : xs.map (fun x : { x // x ∈ Tl } => entOf w x.1) = ((E.filter fun e => !lessN e.1 (a, b)).takeWhile fun e => !lessN (c, d) e.1).take most.toNat := by
      have hT : Tl.map (entOf w) = xs.map fun x : { x // x ∈ Tl } => entOf w x.1 := by
        have := congrArg (List.map (entOf w)) hxs
        rw [← this]
        simp [Function.comp_def]
      rw [HEl.out, hT]
      have h1 := take_all (p := fun e : Ent => !lessN (c, d) e.1) (m := most) (xs.map (fun x : { x // x ∈ Tl } => entOf w x.1)) 0 (fun i hi => by
        have := hI.2.2.2.2 i (by simpa using hi)
        simp only [Nat.zero_add, List.getElem_map]
        exact this)
      rw [Nat.sub_zero] at h1
      exact h1.symm
    have HR := Lib.hid hres
    obtain ⟨i1, i2, i3, ⟨v, i4, i5⟩, i6⟩ := hI
    have l0 := cell_in i4 (i := 0) rfl
    have HI := Lib.hid (And.intro i1 (And.intro i2 i5))
    clear i1 i2 i3 i4 i5 i6 hres hxs
    go_wp2_with fail
    refine ⟨by simp, .inl ⟨_, _, rfl, run_takeDeferred hK, ?_⟩⟩
    refine ⟨_, results_tmp rfl _ _ _, ?_⟩
    obtain ⟨i1, i2, i5⟩ := HI.out
    have hg := grownBy_putObj' W D (.deferred none)
    have hr : ∀ r, some D = some r → ∃ o : Obj, W.heap[r]? = some o ∧ o.isCells = false := fun r e => by cases e; exact ⟨_, hK, rfl⟩
    refine ⟨_, rfl, ?_, grown_below i1 hg (fun r e => by cases e; have := HS3.out; omega) (Nat.le_refl _) (by omega)⟩
    rw [← HR.out]
    exact (i5.grown hg hr).mono (by omega)
end Go.Proofs.YtbjpfnafhhbmaaaDoor.Sad

/- a stream as an object with its blocks: E its entries, l its last identifier. -/
namespace Go.Proofs.YtbjpfnafhhbmaaaDoor.Sad
open Go.Proofs.YtbjpfnafhhbmaaaDoor
set_option linter.unusedVariables false
set_option linter.unusedSimpArgs false
open Go.RowKit RT Go.Shelf
structure StmO (w : World) (s p : Nat) (G R : Nat → Prop) (T : Option RT) (E : List Ent) (l : Nat × Nat) : Prop where
  core : StmF w s p G T E.length l.1 l.2
  rows : Rows2 w R (toldL T (idBytes 0 0)) E
  apart : ∀ b, R b → ¬ G b ∧ b ≠ s
  rlt : ∀ b, R b → b < w.heap.size
  top : ∀ e ∈ E, lessN l e.1 = false
/-- Stream s, in blocks of F. -/
def Stm (w : World) (s : Nat) (F : Nat → Prop) (E : List Ent) (l : Nat × Nat) : Prop :=
  ∃ p G R T, StmO w s p G R T E l ∧ ∀ k, F k ↔ k = s ∨ G k ∨ R k
section
variable {w w' : World} {s p : Nat} {G R F : Nat → Prop} {T : Option RT} {E : List Ent} {l : Nat × Nat}
theorem StmF.chg {n ms q : Nat} (h : StmF w s p G T n ms q) {S : Nat → Prop} (hc : Chg S w w') (hs : ¬ S s) (hG : ∀ k, G k → ¬ S k) : StmF w' s p G T n ms q :=
  ⟨hc.keep h.head hs, h.tree.chg hc hG, h.own, h.ms_lt, h.q_lt⟩
theorem Stm.lt (h : Stm w s F E l) : ∀ k, F k → k < w.heap.size := by
  obtain ⟨p, G, R, T, h, hF⟩ := h
  intro k hk
  rcases (hF k).1 hk with rfl | hk | hk
  · exact heap_lt h.core.head
  · exact h.core.tree.1 k hk
  · exact h.rlt k hk
theorem Stm.chg (h : Stm w s F E l) {S : Nat → Prop} (hc : Chg S w w') (hs : ∀ k, F k → ¬ S k) : Stm w' s F E l := by
  obtain ⟨p, G, R, T, h, hF⟩ := h
  exact ⟨p, G, R, T, ⟨StmF.chg h.core hc (hs s ((hF s).2 (.inl rfl))) fun k hk => hs k ((hF k).2 (.inr (.inl hk))), Rows2.chg hc (fun b hb => hs b ((hF b).2 (.inr (.inr hb)))) h.rows, h.apart, fun b hb => Nat.lt_of_lt_of_le (h.rlt b hb) hc.size, h.top⟩, hF⟩
theorem Stm.below (h : Stm w s F E l) (hb : Below w.heap.size w w') : Stm w' s F E l := h.chg (Chg.of_below (fun _ => False) hb) fun _ _ => id
theorem StmO.ids (h : StmO w s p G R T E l) : (toldL T (idBytes 0 0)).map idT2 = E.map (·.1) := by
  have := h.rows.ents
  conv => rhs; rw [this]
  rw [List.map_map]
  rfl
theorem Stm.rise (h : Stm w s F E l) : E.Pairwise fun x y => lessN x.1 y.1 = true := by
  obtain ⟨p, G, R, T, h, hF⟩ := h
  have h1 := told_rise h.core.tree.wf (idBytes 0 0)
  have h2 : ((toldL T (idBytes 0 0)).map idT2).Pairwise fun x y => lessN x y = true := by rw [List.pairwise_map]; exact h1
  rw [h.ids, List.pairwise_map] at h2
  exact h2
theorem Stm.lt64 (h : Stm w s F E l) : (l.1 < 18446744073709551616 ∧ l.2 < 18446744073709551616) ∧ ∀ e ∈ E, e.1.1 < 18446744073709551616 ∧ e.1.2 < 18446744073709551616 := by
  obtain ⟨p, G, R, T, h, hF⟩ := h
  refine ⟨⟨h.core.ms_lt, h.core.q_lt⟩, fun e he => ?_⟩
  have h1 : e.1 ∈ E.map (·.1) := List.mem_map_of_mem he
  rw [← h.ids] at h1
  obtain ⟨x, hx, hxe⟩ := List.mem_map.1 h1
  have := ((mem_all h.core.tree.wf x).1 hx).1
  rw [← hxe]
  exact this
theorem Stm.top (h : Stm w s F E l) : ∀ e ∈ E, lessN l e.1 = false := by
  obtain ⟨p, G, R, T, h, hF⟩ := h
  exact h.top
theorem StmO.nodes (h : StmO w s p G R T E l) (hn : E.length ≤ 400000) : nodesO T ≤ 1000000 := by
  have h1 := (nodesO_le h.core.tree.wf).1
  have h2 := h.rows.length
  have h3 : (toldL T (idBytes 0 0)).length = (itemsO T).length := by
    unfold toldL
    rw [List.length_map]
    unfold fromL
    rw [List.filter_eq_self.2]
    rintro ⟨k, v⟩ hk
    have := less_ids ((mem_itemsO h.core.tree.wf k v).1 hk).1 (idBytes_length 0 0)
    rw [idOf_id (by omega) (by omega)] at this
    have e : lessN (idOf k) (0, 0) = false := by simp [lessN]
    rw [e] at this
    simpa using this.symm
  omega
end
theorem stm_new (w : World) : Calls Tryd.prog 18 #[] w fun e w' => ∃ s F, e = .returned (ptrV s) ∧ Stm w' s F [] (0, 0) ∧ Below w.heap.size w w' ∧ ∀ k, F k → w.heap.size ≤ k := by
  refine (stmNew w).mono ?_
  rintro e w' ⟨s, p, G, rfl, h1, h2, h3, h4⟩
  refine ⟨s, fun k => k = s ∨ G k ∨ False, rfl, ⟨p, G, fun _ => False, none, ⟨h1, trivial, fun b h => h.elim, fun b h => h.elim, by simp⟩, fun k => Iff.rfl⟩, h2, ?_⟩
  rintro k (rfl | hk | hk)
  · exact h3
  · exact h4 k hk
  · exact hk.elim
theorem stm_len {w : World} {s : Nat} {F : Nat → Prop} {E : List Ent} {l : Nat × Nat} (h : Stm w s F E l) : Calls Tryd.prog 22 #[ptrV s] w fun e w' => e = .returned (.int .i64 E.length) ∧ w' = w := by
  obtain ⟨p, G, R, T, h, hF⟩ := h
  exact stmLen h.core
theorem stm_last {w : World} {s : Nat} {F : Nat → Prop} {E : List Ent} {l : Nat × Nat} (h : Stm w s F E l) : Calls Tryd.prog 24 #[ptrV s] w fun e w' => e = .returned (.agg #[.int .u64 l.1, .int .u64 l.2]) ∧ Below w.heap.size w w' := by
  obtain ⟨p, G, R, T, h, hF⟩ := h
  exact stmLast h.core
theorem stm_next {w : World} {s : Nat} {F : Nat → Prop} {E : List Ent} {l : Nat × Nat} (h : Stm w s F E l) {now : Int} (hlo : -9223372036854775808 ≤ now) (hhi : now ≤ 9223372036854775807) :
    Calls Tryd.prog 23 #[ptrV s, .int .i64 now] w fun e w' => e = .returned (.tuple #[.agg #[.int .u64 (nextN l.1 l.2 now).1.1, .int .u64 (nextN l.1 l.2 now).1.2], .bool (nextN l.1 l.2 now).2]) ∧ Below w.heap.size w w' := by
  obtain ⟨p, G, R, T, h, hF⟩ := h
  exact stmNext h.core hlo hhi
theorem stm_range {w : World} {s : Nat} {F : Nat → Prop} {E : List Ent} {l : Nat × Nat} (h : Stm w s F E l) (hn : E.length ≤ 400000) {a b c d : Nat} (ha : a < 18446744073709551616) (hb : b < 18446744073709551616) {most : Int} :
    Calls Tryd.prog 15 #[ptrV s, .agg #[.int .u64 a, .int .u64 b], .agg #[.int .u64 c, .int .u64 d], .int .i64 most] w fun e w' => ∃ v, e = .returned v ∧ EntsOut w' w.heap.size v (((E.filter fun e => !lessN e.1 (a, b)).takeWhile fun e => !lessN (c, d) e.1).take most.toNat) ∧ Below w.heap.size w w' := by
  obtain ⟨p, G, R, T, h, hF⟩ := h
  exact stmRange h.core h.rows (h.nodes hn) ha hb
/-- The entries' cost. -/
def costE (E : List Ent) : Nat := (E.map fun e => 32 + pairsCost e.2).foldl (· + ·) 0
theorem stm_charge {w : World} {s : Nat} {F : Nat → Prop} {E : List Ent} {l : Nat × Nat} (h : Stm w s F E l) (hn : E.length ≤ 400000) {M : Nat} (hM : ∀ e ∈ E, 32 + pairsCost e.2 ≤ M) (hc : E.length * M ≤ 281474976710656) :
    Calls Tryd.prog 31 #[ptrV s] w fun e w' => e = .returned (.int .i64 (costE E : Nat)) ∧ Below w.heap.size w w' := by
  obtain ⟨p, G, R, T, h, hF⟩ := h
  have he := h.rows.ents
  have hcost : costOf (rowOf w) (toldL T (idBytes 0 0)) = costE E := by
    unfold costE costOf
    conv => rhs; rw [he]
    rw [List.map_map]
    rfl
  rw [← hcost]
  refine stmCharge h.core (R := rowOf w) (M := M) (fun x hx => ?_) (fun x hx => ?_) (by rw [h.rows.length]; exact hc) (h.nodes hn)
  · obtain ⟨e, _, hr⟩ := h.rows.mem x hx
    rw [rowOf_eq hr.2.1]
    exact ⟨hr.2.1, by have := hr.2.2.1.2; omega⟩
  · obtain ⟨e, hee, hr⟩ := h.rows.mem x hx
    rw [rowOf_eq hr.2.1]
    exact hM e hee
theorem stm_add_bad {w : World} {s : Nat} {F : Nat → Prop} {E : List Ent} {l : Nat × Nat} (h : Stm w s F E l) {a : Option Addr} {k c : Nat} {L : List PairT} (hp : PairRow w a k c L) (hk : k ≤ 281474976710656) (im iq : Nat)
    (hbad : k = 0 ∨ L.any longP = true ∨ lessN l (im, iq) = false) :
    Calls Tryd.prog 25 #[ptrV s, .agg #[.int .u64 im, .int .u64 iq, .slice a k c]] w fun e w' => e = .returned (.int .i64 1) ∧ Below w.heap.size w w' := by
  obtain ⟨p, G, R, T, h, hF⟩ := h
  exact addBad h.core hp hk im iq hbad
theorem stm_add {w : World} {s : Nat} {F : Nat → Prop} {E : List Ent} {l : Nat × Nat} (h : Stm w s F E l) {a : Option Addr} {k c : Nat} {L : List PairT} (hp : PairRow w a k c L) (hk : k ≤ 4000000000000) {im iq : Nat} (him : im < 18446744073709551616) (hiq : iq < 18446744073709551616)
    (hk0 : 0 < k) (hx : L.any longP = false) (hy : lessN l (im, iq) = true) (hn : E.length < 1048576) :
    Calls Tryd.prog 25 #[ptrV s, .agg #[.int .u64 im, .int .u64 iq, .slice a k c]] w fun e w' => e = .returned (.int .i64 0) ∧ ∃ F', Stm w' s F' (E ++ [((im, iq), L)]) (im, iq) ∧ Fresh w F F' ∧ Chg F w w' := by
  obtain ⟨p, G, R, T, h, hF⟩ := h
  refine (addGood h.core hp hk him hiq hk0 hx hy hn).mono ?_
  rintro e w' ⟨rfl, G', b, c', h1, h2, h3, h4, h5, h6⟩
  have hwf := h.core.tree.wf
  have hlt : ∀ x ∈ toldL T (idBytes 0 0), lessN (idT2 x) (im, iq) = true := fun x hx => by
    have h1 : idT2 x ∈ E.map (·.1) := by rw [← h.ids]; exact List.mem_map_of_mem hx
    obtain ⟨e, he, hee⟩ := List.mem_map.1 h1
    have := h.top e he
    rw [← hee]
    rcases less_total this with h' | h'
    · exact less_trans h' hy
    · rw [← h']; exact hy
  have hno : (lookO T (idBytes im iq)).isNone = true := by
    have := look_some hwf him hiq
    rw [List.any_eq_false.2] at this
    · cases hl : lookO T (idBytes im iq) with
      | none => rfl
      | some v => rw [hl] at this; cases this
    · intro x hx
      simp only [decide_eq_true_eq]
      intro e
      have := hlt x hx
      rw [e, less_irrefl] at this
      cases this
  rw [if_pos hno] at h1
  have hb : b < w'.heap.size := by
    obtain ⟨b', o', e, hlt', _⟩ := h2.cells (i := 0) hk0
    cases e; exact hlt'
  have hslt := heap_lt h.core.head
  refine ⟨rfl, fun j => j = s ∨ G' j ∨ R j ∨ j = b, ⟨p, G', fun j => R j ∨ j = b, _, ⟨by rw [List.length_append]; exact h1, ?_, ?_, ?_, ?_⟩, fun k => Iff.rfl⟩, ?_, h6.mono fun j hj _ => (hF j).2 (by rcases hj with h | h; exact .inr (.inl h); exact .inl h)⟩
  · rw [told_put hwf him hiq _ hlt]
    refine Rows2.append ?_ ⟨⟨rfl, h2, ⟨hk0, hk⟩, b, rfl, .inr rfl⟩, trivial⟩
    exact Rows2.imp (fun j _ hj => .inl hj) (Rows2.chg h6 (fun j hj hS => by rcases hS with hS | hS; exact (h.apart j hj).1 hS; exact (h.apart j hj).2 hS) h.rows)
  · rintro j (hj | rfl)
    · refine ⟨fun hg => ?_, (h.apart j hj).2⟩
      rcases h5 j hg with h' | h'
      · exact (h.apart j hj).1 h'
      · have := h.rlt j hj; omega
    · exact ⟨h4, by omega⟩
  · rintro j (hj | rfl)
    · exact Nat.lt_of_lt_of_le (h.rlt j hj) h6.size
    · exact hb
  · intro e he
    rcases List.mem_append.1 he with he | he
    · have := h.top e he
      rcases less_total this with h' | h'
      · exact less_asymm (less_trans h' hy)
      · rw [← h']; exact less_asymm hy
    · rw [List.mem_singleton.1 he]; exact less_irrefl _
  · rintro j (rfl | hj | hj | rfl)
    · exact .inl ((hF _).2 (.inl rfl))
    · exact (h5 j hj).imp (fun h => (hF _).2 (.inr (.inl h))) id
    · exact .inl ((hF _).2 (.inr (.inr hj)))
    · exact .inr h3
theorem StmO.any {w : World} {s p : Nat} {G R : Nat → Prop} {T : Option RT} {E : List Ent} {l : Nat × Nat} (h : StmO w s p G R T E l) {a b : Nat} (ha : a < 18446744073709551616) (hb : b < 18446744073709551616) : (lookO T (idBytes a b)).isSome = E.any fun e => decide (e.1 = (a, b)) := by
  rw [look_some h.core.tree.wf ha hb]
  have h1 : ((toldL T (idBytes 0 0)).map idT2).any (fun y => decide (y = (a, b))) = (E.map (·.1)).any (fun y => decide (y = (a, b))) := by rw [h.ids]
  rw [List.any_map, List.any_map] at h1
  exact h1
theorem StmO.pos {w : World} {s p : Nat} {G R : Nat → Prop} {T : Option RT} {E : List Ent} {l : Nat × Nat} (h : StmO w s p G R T E l) {a b : Nat} (ha : a < 18446744073709551616) (hb : b < 18446744073709551616) (hl : lookO T (idBytes a b) ≠ none) : 0 < E.length := by
  have h1 : (lookO T (idBytes a b)).isSome = true := by cases hh : lookO T (idBytes a b) with | none => exact absurd hh hl | some v => rfl
  rw [h.any ha hb] at h1
  cases E with
  | nil => simp at h1
  | cons x l => simp
theorem StmO.del {w w' : World} {s p : Nat} {G G' R : Nat → Prop} {T : Option RT} {E : List Ent} {l : Nat × Nat} (h : StmO w s p G R T E l) {a b : Nat} (ha : a < 18446744073709551616) (hb : b < 18446744073709551616)
    (h1 : StmF w' s p G' (if (lookO T (idBytes a b)).isSome then delO T (idBytes a b) else T) (if (lookO T (idBytes a b)).isSome then E.length - 1 else E.length) l.1 l.2) (h2 : Fresh w G G') (h3 : Chg G w w') :
    StmO w' s p G' R (if (lookO T (idBytes a b)).isSome then delO T (idBytes a b) else T) (E.filter fun e => !decide (e.1 = (a, b))) l := by
  have hwf := h.core.tree.wf
  have hany := h.any ha hb
  rw [hany] at h1 ⊢
  refine ⟨?_, ?_, ?_, fun j hj => Nat.lt_of_lt_of_le (h.rlt j hj) h3.size, fun e he => h.top e (List.mem_filter.1 he).1⟩
  · have hlen : (E.filter fun e => !decide (e.1 = (a, b))).length = if (E.any fun e => decide (e.1 = (a, b))) then E.length - 1 else E.length := by
      by_cases hh : (E.any fun e => decide (e.1 = (a, b))) = true
      · rw [if_pos hh]
        have hne : lookO T (idBytes a b) ≠ none := fun e => by rw [← hany, e] at hh; cases hh
        have k1 := h1.tree
        rw [if_pos hh] at k1
        have k2 := told_del hwf ha hb hne
        have k3 := (Rows2.filter (p := fun e => !decide (e.1 = (a, b))) h.rows).length
        have k4 := len_delO hwf (idBytes_length a b) hne
        have k5 : ∀ V : Option RT, WFO V → (toldL V (idBytes 0 0)).length = (itemsO V).length := fun V hV => by
          unfold toldL
          rw [List.length_map]
          unfold fromL
          rw [List.filter_eq_self.2]
          rintro ⟨k, v⟩ hk
          have := less_ids ((mem_itemsO hV k v).1 hk).1 (idBytes_length 0 0)
          rw [idOf_id (by omega) (by omega)] at this
          have e : lessN (idOf k) (0, 0) = false := by simp [lessN]
          rw [e] at this
          simpa using this.symm
        have k6 := k5 T hwf
        have k7 := k5 _ (hwf.delO (idBytes_length a b) hne)
        have k8 := h.rows.length
        rw [k2] at k7
        have k9 : ((toldL T (idBytes 0 0)).filter fun x => !decide (idT2 x = (a, b))).length = (E.filter fun e => !decide (e.1 = (a, b))).length := k3
        omega
      · rw [if_neg hh, List.filter_eq_self.2]
        intro e he
        have hh' : (E.any fun e => decide (e.1 = (a, b))) = false := Bool.eq_false_iff.2 hh
        have := List.any_eq_false.1 hh' e he
        simpa using this
    rw [hlen]
    exact h1
  · have hr : Rows2 w' R (toldL T (idBytes 0 0)) E := Rows2.chg h3 (fun j hj hS => (h.apart j hj).1 hS) h.rows
    by_cases hh : (E.any fun e => decide (e.1 = (a, b))) = true
    · rw [if_pos hh]
      have hne : lookO T (idBytes a b) ≠ none := fun e => by rw [← hany, e] at hh; cases hh
      rw [told_del hwf ha hb hne]
      exact Rows2.filter (p := fun e => !decide (e.1 = (a, b))) hr
    · rw [if_neg hh, List.filter_eq_self.2]
      · exact hr
      · intro e he
        have hh' : (E.any fun e => decide (e.1 = (a, b))) = false := Bool.eq_false_iff.2 hh
        have := List.any_eq_false.1 hh' e he
        simpa using this
  · intro j hj
    refine ⟨fun hg => ?_, (h.apart j hj).2⟩
    rcases h2 j hg with h' | h'
    · exact (h.apart j hj).1 h'
    · have := h.rlt j hj; omega
theorem stm_del {w : World} {s : Nat} {F : Nat → Prop} {E : List Ent} {l : Nat × Nat} (h : Stm w s F E l) (hn : E.length ≤ 400000) {a b : Nat} (ha : a < 18446744073709551616) (hb : b < 18446744073709551616) :
    Calls Tryd.prog 32 #[ptrV s, .agg #[.int .u64 a, .int .u64 b]] w fun e w' => e = .returned (.bool (E.any fun e => decide (e.1 = (a, b)))) ∧ ∃ F', Stm w' s F' (E.filter fun e => !decide (e.1 = (a, b))) l ∧ Fresh w F F' ∧ Chg F w w' := by
  obtain ⟨p, G, R, T, h, hF⟩ := h
  refine (stmDelete h.core ha hb (by omega) (h.pos ha hb)).mono ?_
  rintro e w' ⟨rfl, G', h1, h2, h3⟩
  refine ⟨by rw [h.any ha hb], fun j => j = s ∨ G' j ∨ R j, ⟨p, G', R, _, h.del ha hb h1 h2 h3, fun k => Iff.rfl⟩, ?_, h3.mono fun j hj _ => (hF j).2 (.inr (.inl hj))⟩
  · rintro j (rfl | hj | hj)
    · exact .inl ((hF _).2 (.inl rfl))
    · exact (h2 j hj).imp (fun h => (hF _).2 (.inr (.inl h))) id
    · exact .inl ((hF _).2 (.inr (.inr hj)))
/-- The tree's own Delete. -/
theorem tree_del {w : World} {s p : Nat} {G R : Nat → Prop} {T : Option RT} {E : List Ent} {l : Nat × Nat} (h : StmO w s p G R T E l) (hn : E.length ≤ 400000) {a b : Nat} (ha : a < 18446744073709551616) (hb : b < 18446744073709551616) :
    Calls Tryd.prog 59 #[ptrV p, .agg #[.int .u64 a, .int .u64 b]] w fun e w' => e = .returned (.bool (E.any fun e => decide (e.1 = (a, b)))) ∧ ∃ G' T', StmO w' s p G' R T' (E.filter fun e => !decide (e.1 = (a, b))) l ∧ Fresh w G G' ∧ Chg G w w' := by
  refine (radDelete h.core.tree ha hb (by omega) (h.pos ha hb)).mono ?_
  rintro e w' ⟨rfl, G', h1, h2, h3⟩
  refine ⟨by rw [h.any ha hb], G', _, h.del ha hb ⟨h3.keep h.core.head h.core.own, h1, fun hg => ?_, h.core.ms_lt, h.core.q_lt⟩ h2 h3, h2, h3⟩
  rcases h2 s hg with h' | h'
  · exact h.core.own h'
  · have := heap_lt h.core.head; omega
theorem stm_setLast {w : World} {s : Nat} {F : Nat → Prop} {E : List Ent} {l : Nat × Nat} (h : Stm w s F E l) {a b : Nat} (ha : a < 18446744073709551616) (hb : b < 18446744073709551616) :
    Calls Tryd.prog 33 #[ptrV s, .agg #[.int .u64 a, .int .u64 b]] w fun e w' =>
      e = .returned (.int .i64 (if lessN (a, b) l then 1 else 0)) ∧ Stm w' s F E (if lessN (a, b) l then l else (a, b)) ∧ Chg F w w' := by
  have h0 := h
  obtain ⟨p, G, R, T, h, hF⟩ := h
  refine (stmSetLast h.core ha hb).mono ?_
  rintro e w' (⟨h1, rfl, h2⟩ | ⟨h1, rfl, h2, h3⟩)
  · rw [if_pos h1, if_pos h1]
    exact ⟨rfl, h0.below h2, Chg.of_below _ h2⟩
  · rw [if_neg (by rw [show lessN (a, b) l = false from h1]; simp), if_neg (by rw [show lessN (a, b) l = false from h1]; simp)]
    refine ⟨rfl, ⟨p, G, R, T, ⟨h2, Rows2.chg h3 (fun j hj e => (h.apart j hj).2 e) h.rows, h.apart, fun j hj => Nat.lt_of_lt_of_le (h.rlt j hj) h3.size, fun e he => ?_⟩, hF⟩, h3.mono fun j hj _ => (hF j).2 (.inl hj)⟩
    have h4 : lessN (a, b) l = false := h1
    have := h.top e he
    rcases less_total this with h' | h'
    · rcases less_total h4 with h5 | h5
      · exact less_asymm (less_trans h' h5)
      · rw [h5]; exact less_asymm h'
    · rw [← h']; exact h4
end Go.Proofs.YtbjpfnafhhbmaaaDoor.Sad

/- SamePairs, SameEntry, SameEntries. -/
namespace Go.Proofs.YtbjpfnafhhbmaaaDoor.Sad
open Go.Proofs.YtbjpfnafhhbmaaaDoor
set_option linter.unusedVariables false
set_option linter.unusedSimpArgs false
open Go.RowKit RT Go.Shelf
theorem pair_struct : Tryd.prog.underlying 59 = some (.struct (Tryd.prog.fieldsOf 59)) := by kernel_rfl
@[go_sem] theorem eq_pair (a b c d : ByteArray) (w : World) : (Op.equalIn 10000 59 (.agg #[.string a, .string b]) (.agg #[.string c, .string d])).run Tryd.prog w = .ok (a.toList == c.toList && b.toList == d.toList) w := by
  rw [show (10000 : Nat) = 9999 + 1 from rfl, run_equalIn_struct w _ _ _ _ pair_struct (by kernel_rfl)]
  have u1 : Tryd.prog.underlying 9 = some .string := Tryd.underlying9
  simp only [Program.fieldsOf, Tryd.underlying59]
  simp [Op.eqFields, part, go_sem, u1]
  cases h1 : (a.toList == c.toList) <;> cases h2 : (b.toList == d.toList) <;> simp_all
@[go_sem] theorem guard_pair (op : BinOp) (w : World) (x y : Operand) (xs ys : Array Value) : (eqGuard op 59 x y (.agg xs) (.agg ys)).run Tryd.prog w = .ok () w := run_eqGuard_agg w op _ x y xs ys (by kernel_rfl)
/-- It answers whether P. -/
def SaysB (P : Prop) (w : World) (e : Ending) (w' : World) : Prop := ∃ r : Bool, e = .returned (.bool r) ∧ (r = true ↔ P) ∧ Below w.heap.size w w'
theorem bytes_beq (a c : ByteArray) : (a.toList == c.toList) = decide (a = c) := by
  rw [Bool.eq_iff_iff, beq_iff_eq, decide_eq_true_eq, ByteArray.toList_eq, ByteArray.toList_eq]
  exact ⟨fun h => ByteArray.ext (Array.toList_inj.1 h), fun h => by rw [h]⟩
theorem take_eq_succ {L M : List PairT} {k : Nat} (h1 : k < L.length) (h2 : k < M.length) : (L.take (k + 1) = M.take (k + 1)) ↔ (L.take k = M.take k ∧ L.getD k e0 = M.getD k e0) := by
  rw [List.take_succ_eq_append_getElem h1, List.take_succ_eq_append_getElem h2]
  have g1 : L.getD k e0 = L[k] := by simp [List.getD, h1]
  have g2 : M.getD k e0 = M[k] := by simp [List.getD, h2]
  rw [g1, g2]
  constructor
  · intro h
    have := List.append_inj' h rfl
    exact ⟨this.1, by simpa using this.2⟩
  · rintro ⟨h, h'⟩; rw [h, h']
set_option maxHeartbeats 3200000 in
set_option maxRecDepth 100000 in
theorem samePairs {w : World} {a a' : Option Addr} {n n' c c' : Nat} {L M : List PairT} (h : PairRow w a n c L) (h' : PairRow w a' n' c' M) (hn : n ≤ 4000000000000) :
    Calls Tryd.prog 64 #[.slice a n c, .slice a' n' c'] w (SaysB (L = M) w) := by
  have HR := Lib.hid (And.intro h h')
  have hl : L.length = n := h.1
  have hl' : M.length = n' := h'.1
  by_cases hnn : n = n'
  · subst hnn
    have HL := Lib.hid (And.intro hl hl')
    clear h h' hl hl'
    have e1 : ((n : Int) == (n : Int)) = true := by simp
    go_enter Tryd.func64, Tryd.ntmps64
    go_wp2_with fail
    go_loopw [5] (fun i wr => ∃ k : Nat, k ≤ n ∧ i = .int .i64 k ∧ Hid (L.take k = M.take k ∧ Below w.heap.size w wr)) (fun i _ => n - (intOf i).toNat)
    case atStart => exact ⟨0, Nat.zero_le _, rfl, Lib.hid ⟨by simp, Below.refl _ _⟩⟩
    case round =>
      obtain ⟨k, hk, rfl, hI⟩ := hrel
      by_cases hlt : k < n
      · have hC := fun w' (hb : Below w.heap.size w w') => And.intro (((HR.out.1.below hb)).cells hlt) ((HR.out.2.below hb).cells hlt)
        obtain ⟨⟨b, o, rfl, _⟩, ⟨b', o', rfl, _⟩⟩ := hC wr hI.out.2
        obtain ⟨f, hf⟩ : ∃ f, L.getD k e0 = f := ⟨_, rfl⟩
        obtain ⟨g, hg⟩ : ∃ g, M.getD k e0 = g := ⟨_, rfl⟩
        have hC2 : ∀ w', Below w.heap.size w w' → (w'.cell? ⟨b, o + k * 2, none⟩ = some (.string f.1) ∧ w'.cell? ⟨b, o + k * 2 + 1, none⟩ = some (.string f.2)) ∧ w'.cell? ⟨b', o' + k * 2, none⟩ = some (.string g.1) ∧ w'.cell? ⟨b', o' + k * 2 + 1, none⟩ = some (.string g.2) := fun w' hb => by
          obtain ⟨⟨b1, o1, e1, _, d0, d1⟩, ⟨b2, o2, e2, _, d2, d3⟩⟩ := hC w' hb
          cases e1
          cases e2
          rw [hf] at d0 d1
          rw [hg] at d2 d3
          exact ⟨⟨d0, d1⟩, d2, d3⟩
        have hs := take_eq_succ (k := k) (L := L) (M := M) (by rw [HL.out.1]; exact hlt) (by rw [HL.out.2]; exact hlt)
        rw [hf, hg] at hs
        obtain ⟨f1, f2⟩ := f
        obtain ⟨g1, g2⟩ := g
        have c0 := hC2 wr.drew (belowN hI.out.2 1)
        obtain ⟨X1, fw, hX1, hfw, hF⟩ := classOf (fun w' => (w'.cell? ⟨b, o + k * 2, none⟩ = some (.string f1) ∧ w'.cell? ⟨b, o + k * 2 + 1, none⟩ = some (.string f2)) ∧ w'.cell? ⟨b', o' + k * 2, none⟩ = some (.string g1) ∧ w'.cell? ⟨b', o' + k * 2 + 1, none⟩ = some (.string g2)) (w := wr.drew) c0
        have k1 := fun x => (hfw x).1.1
        have k2 := fun x => (hfw x).1.2
        have k3 := fun x => (hfw x).2.1
        have k4 := fun x => (hfw x).2.2
        have HFa := Lib.hid (hF wr.drew c0)
        have HS := Lib.hid hs
        have hbd1 : k < n := hlt
        clear hF hfw c0 hC hC2 hf hg hs
        obtain ⟨t1, ht1⟩ : ∃ t1, (f1.toList == g1.toList) = t1 := ⟨_, rfl⟩
        obtain ⟨t2, ht2⟩ : ∃ t2, (f2.toList == g2.toList) = t2 := ⟨_, rfl⟩
        have HT := Lib.hid (show (t1 && t2) = true ↔ (f1, f2) = (g1, g2) by rw [← ht1, ← ht2, bytes_beq, bytes_beq]; simp)
        cases t1 <;> cases t2
        all_goals
          go_upto_region 6 with (fail)
          refine wp_region_text ⟨[], [], 9⟩ (fun w' => ∃ x : X1, w' = fw x) (by kernel_rfl) (by kernel_rfl) HFa.out ?_
          refine wpC_seg false (HFa.out) 9 0 _ _ (by rfl) (by rfl) ?_
          simp only [List.take_succ_cons, List.take_zero, List.drop_succ_cons, List.drop_zero, Bool.false_eq_true, if_false, Nat.zero_add, Nat.reduceAdd]
          repeat (go_big_quiet_step (fail))
          refine wpQuiet_nil ?_
          refine wpC_nil ?_
          go_wp2_with fail
        all_goals first
          | exact bodyPost_ret (results_tmp rfl _ _ _) rfl ⟨false, rfl, ⟨fun h => (by cases h), fun h => absurd (HT.out.2 ((HS.out.1 (by rw [h])).2)) (by decide)⟩, belowN hI.out.2 1⟩
          | (go_roundw
             case rel => exact ⟨k + 1, by omega, by go_num, Lib.hid ⟨HS.out.2 ⟨hI.out.1, HT.out.1 rfl⟩, belowN hI.out.2 1⟩⟩
             case measure => simp [intOf]; omega)
      · obtain rfl : n = k := by omega
        go_wp2_with fail
        go_ret
        have h1 := hI.out.1
        rw [List.take_of_length_le (by rw [HL.out.1]; exact Nat.le_refl _), List.take_of_length_le (by rw [HL.out.2]; exact Nat.le_refl _)] at h1
        exact ⟨true, rfl, by simp [h1], hI.out.2⟩
  · have e1 : ((n : Int) == (n' : Int)) = false := by simp; omega
    have HL := Lib.hid (show L ≠ M from fun e => hnn (by rw [← hl, ← hl', e]))
    clear h h' hl hl' hnn
    go_enter Tryd.func64, Tryd.ntmps64
    go_wp2_with fail
    go_ret
    exact ⟨false, rfl, ⟨fun h => (by cases h), fun h => absurd h HL.out⟩, Below.refl _ _⟩
end Go.Proofs.YtbjpfnafhhbmaaaDoor.Sad

/- SameEntry, SameEntries: rows of entries in memory. -/
namespace Go.Proofs.YtbjpfnafhhbmaaaDoor.Sad
open Go.Proofs.YtbjpfnafhhbmaaaDoor
set_option linter.unusedVariables false
set_option linter.unusedSimpArgs false
open Go.RowKit RT Go.Shelf
theorem SaysB.mono {P Q : Prop} {w : World} {e : Ending} {w' : World} (h : SaysB P w e w') (hpq : P ↔ Q) : SaysB Q w e w' := by
  obtain ⟨r, h1, h2, h3⟩ := h
  exact ⟨r, h1, h2.trans hpq, h3⟩
set_option maxHeartbeats 3200000 in
set_option maxRecDepth 100000 in
theorem sameEntry {w : World} {x y : Told} {e f : Ent} (hx : PairRow w x.2.2.1 x.2.2.2.1 x.2.2.2.2 e.2) (hxi : idT2 x = e.1) (hxn : x.2.2.2.1 ≤ 4000000000000) (hy : PairRow w y.2.2.1 y.2.2.2.1 y.2.2.2.2 f.2) (hyi : idT2 y = f.1) :
    Calls Tryd.prog 39 #[.agg #[.int .u64 x.1, .int .u64 x.2.1, vC x.2.2], .agg #[.int .u64 y.1, .int .u64 y.2.1, vC y.2.2]] w (SaysB (e = f) w) := by
  obtain ⟨xm, xq, xa, xn, xc⟩ := x
  obtain ⟨ym, yq, ya, yn, yc⟩ := y
  dsimp only [idT2, vC] at *
  obtain ⟨w1, hw1⟩ : ∃ w1, w1 = (w.alloc (.cells #[.int .u64 xm, .int .u64 xq, .slice xa xn xc] 39)).alloc (.cells #[.int .u64 ym, .int .u64 yq, .slice ya yn yc] 39) := ⟨_, rfl⟩
  have hb1 : Below w.heap.size w w1 := by rw [hw1]; exact ((Below.refl _ _).alloc (Nat.le_refl _) _).alloc (by simp) _
  have k1 : w1.heap[w.heap.size]? = some (.cells #[.int .u64 xm, .int .u64 xq, .slice xa xn xc] 39 (0, 0)) := by rw [hw1]; exact heap_old (heap_new _ _) _
  have k2 : w1.heap[w.heap.size + 1]? = some (.cells #[.int .u64 ym, .int .u64 yq, .slice ya yn yc] 39 (0, 0)) := by
    rw [hw1]
    have := heap_new (w.alloc (.cells #[.int .u64 xm, .int .u64 xq, .slice xa xn xc] 39)) (.cells #[.int .u64 ym, .int .u64 yq, .slice ya yn yc] 39)
    rw [World.size_alloc] at this
    exact this
  have c0 := cell_in k1 (i := 0) rfl
  have c1 := cell_in k1 (i := 1) rfl
  have c2 := cell_in k1 (i := 2) rfl
  have d0 := cell_in k2 (i := 0) rfl
  have d1 := cell_in k2 (i := 1) rfl
  have d2 := cell_in k2 (i := 2) rfl
  have HS := Lib.hid (samePairs (hx.below hb1) (hy.below hb1) hxn)
  have HW := Lib.hid hw1
  have HB := Lib.hid hb1
  have HI := Lib.hid (And.intro hxi hyi)
  by_cases hid : xm = ym ∧ xq = yq
  · obtain ⟨rfl, rfl⟩ := hid
    clear hx hy hxi hyi hxn hw1 hb1 k1 k2
    go_enter Tryd.func39, Tryd.ntmps39
    go_wp2_with fail
    rw [← HW.out]
    refine HS.out.mono ?_
    rintro e' w2 ⟨r, rfl, hr, b2⟩
    have HR := Lib.hid (And.intro hr b2)
    clear hr b2
    go_wp2_with fail
    go_ret
    refine ⟨r, rfl, HR.out.1.trans ?_, HB.out.trans (HR.out.2.mono HB.out.size)⟩
    have h1 := HI.out
    rw [Prod.ext_iff, ← h1.1, ← h1.2]
    simp
  · rcases Decidable.em (xm = ym) with rfl | hne
    · have e1 : ((xq : Int) == (yq : Int)) = false := by rw [beq_eq_false_iff_ne]; omega
      have HD := Lib.hid hid
      clear hx hy hxi hyi hxn hw1 hb1 k1 k2 hid
      go_enter Tryd.func39, Tryd.ntmps39
      go_wp2_with fail
      rw [← HW.out]
      go_ret
      refine ⟨false, rfl, ⟨fun h => (by cases h), fun h => ?_⟩, HB.out⟩
      have h1 := HI.out
      have h2 := h1.1.trans ((congrArg Prod.fst h).trans h1.2.symm)
      simp only [Prod.mk.injEq] at h2
      exact absurd h2 HD.out
    · have e1 : ((xm : Int) == (ym : Int)) = false := by rw [beq_eq_false_iff_ne]; omega
      clear hne
      have HD := Lib.hid hid
      clear hx hy hxi hyi hxn hw1 hb1 k1 k2 hid
      go_enter Tryd.func39, Tryd.ntmps39
      go_wp2_with fail
      rw [← HW.out]
      go_ret
      refine ⟨false, rfl, ⟨fun h => (by cases h), fun h => ?_⟩, HB.out⟩
      have h1 := HI.out
      have h2 := h1.1.trans ((congrArg Prod.fst h).trans h1.2.symm)
      simp only [Prod.mk.injEq] at h2
      exact absurd h2 HD.out
/-- A row of entries that can be read. -/
def EntRow (w : World) (a : Option Addr) (n c : Nat) (E : List Ent) : Prop :=
  E.length = n ∧ n ≤ c ∧ (n = 0 ∨ ∃ b o, a = some ⟨b, o, none⟩ ∧ ∀ i (h : i < E.length), ∃ x : Told, (∀ j, j < 3 → w.cell? ⟨b, o + i * 3 + j, none⟩ = some ((entV x).getD j undef)) ∧ idT2 x = E[i].1 ∧ PairRow w x.2.2.1 x.2.2.2.1 x.2.2.2.2 E[i].2 ∧ x.2.2.2.1 ≤ 4000000000000)
theorem EntRow.get {w : World} {a : Option Addr} {n c : Nat} {E : List Ent} (h : EntRow w a n c E) {i : Nat} (hi : i < n) : ∃ b o x e, a = some ⟨b, o, none⟩ ∧ (w.cell? ⟨b, o + i * 3, none⟩ = some (.int .u64 x.1) ∧ w.cell? ⟨b, o + i * 3 + 1, none⟩ = some (.int .u64 x.2.1) ∧ w.cell? ⟨b, o + i * 3 + 1 + 1, none⟩ = some (vC x.2.2)) ∧ E[i]? = some e ∧ idT2 x = e.1 ∧ PairRow w x.2.2.1 x.2.2.2.1 x.2.2.2.2 e.2 ∧ x.2.2.2.1 ≤ 4000000000000 := by
  obtain ⟨h1, h2, h3⟩ := h
  obtain ⟨b, o, e, hc⟩ := h3.resolve_left (by omega)
  obtain ⟨x, hx, h4⟩ := hc i (by omega)
  exact ⟨b, o, x, E[i]'(by omega), e, ⟨hx 0 (by omega), hx 1 (by omega), hx 2 (by omega)⟩, List.getElem?_eq_getElem _, h4⟩
theorem EntRow.chg {w w' : World} {a : Option Addr} {n c : Nat} {E : List Ent} (h : EntRow w a n c E) (hb : Below w.heap.size w w') : EntRow w' a n c E := by
  refine ⟨h.1, h.2.1, h.2.2.imp id ?_⟩
  rintro ⟨b, o, e, hc⟩
  refine ⟨b, o, e, fun i hi => ?_⟩
  obtain ⟨x, hx, h1, h2, h3⟩ := hc i hi
  refine ⟨x, fun j hj => ?_, h1, h2.below hb, h3⟩
  rw [hb.cell (p := ⟨b, o + i * 3 + j, none⟩) (World.block_lt_of_cell? w _ (hx j hj))]
  exact hx j hj
theorem flatE : ∀ (A : List Told) (i : Nat) (h : i < A.length) (j : Nat), j < 3 → (A.flatMap entV).getD (i * 3 + j) undef = (entV A[i]).getD j undef
  | p :: A, 0, _, j, hj => by
    simp only [List.flatMap_cons, List.getD, Nat.zero_mul, Nat.zero_add, List.getElem_cons_zero]
    rw [List.getElem?_append_left (by simp [entV]; exact hj)]
  | p :: A, i + 1, h, j, hj => by
    have := flatE A i (by simpa using h) j hj
    simp only [List.flatMap_cons, List.getD, List.getElem_cons_succ] at this ⊢
    rw [List.getElem?_append_right (by simp [entV]; omega), show (i + 1) * 3 + j - (entV p).length = i * 3 + j by simp [entV]; omega]
    exact this
theorem EntsOut.row {w : World} {n₀ : Nat} {v : Value} {E : List Ent} (h : EntsOut w n₀ v E) : ∃ a c, v = .slice a E.length c ∧ EntRow w a E.length c E := by
  obtain ⟨a, c, hv, hc, _⟩ := h.form
  obtain ⟨Vs, h1, h2, h3⟩ := h
  have hl := h2.length
  refine ⟨a, c, hv, rfl, hc, ?_⟩
  rcases Nat.eq_zero_or_pos E.length with h0 | h0
  · exact .inl h0
  · obtain ⟨g, cap, cur, he, _⟩ := h1.2.resolve_left (by omega)
    rw [hv] at he
    simp only [Value.slice.injEq] at he
    obtain ⟨rfl, _, rfl⟩ := he
    refine .inr ⟨g, 0, rfl, fun i hi => ?_⟩
    have hr := h2.get i (by omega) hi
    refine ⟨Vs[i], fun j hj => ?_, hr.1, hr.2.1, hr.2.2.1.2⟩
    have := h1.cell (g := g) (i := i * 3 + j) hv (by omega)
    rw [Nat.zero_add, this, flatE Vs i (by omega) j hj]
theorem ent_take {E F : List Ent} {k : Nat} {e f : Ent} (h1 : E[k]? = some e) (h2 : F[k]? = some f) : (E.take (k + 1) = F.take (k + 1)) ↔ (E.take k = F.take k ∧ e = f) := by
  obtain ⟨hk, rfl⟩ := List.getElem?_eq_some_iff.1 h1
  obtain ⟨hk', rfl⟩ := List.getElem?_eq_some_iff.1 h2
  rw [List.take_succ_eq_append_getElem hk, List.take_succ_eq_append_getElem hk']
  constructor
  · intro h
    have := List.append_inj' h rfl
    exact ⟨this.1, by simpa using this.2⟩
  · rintro ⟨h, h'⟩; rw [h, h']
set_option maxHeartbeats 3200000 in
set_option maxRecDepth 100000 in
theorem sameEntries {w : World} {a a' : Option Addr} {n n' c c' : Nat} {E F : List Ent} (h : EntRow w a n c E) (h' : EntRow w a' n' c' F) (hn : n ≤ 4000000000000) :
    Calls Tryd.prog 17 #[.slice a n c, .slice a' n' c'] w (SaysB (E = F) w) := by
  have HR := Lib.hid (And.intro h h')
  have hl : E.length = n := h.1
  have hl' : F.length = n' := h'.1
  by_cases hnn : n = n'
  · subst hnn
    have HL := Lib.hid (And.intro hl hl')
    clear h h' hl hl'
    have e1 : ((n : Int) == (n : Int)) = true := by simp
    go_enter Tryd.func17, Tryd.ntmps17
    go_wp2_with fail
    go_loopw [5] (fun i wr => ∃ k : Nat, k ≤ n ∧ i = .int .i64 k ∧ Hid (E.take k = F.take k ∧ Below w.heap.size w wr)) (fun i _ => n - (intOf i).toNat)
    case atStart => exact ⟨0, Nat.zero_le _, rfl, Lib.hid ⟨by simp, Below.refl _ _⟩⟩
    case round =>
      obtain ⟨k, hk, rfl, hI⟩ := hrel
      by_cases hlt : k < n
      · obtain ⟨b, o, x, e, rfl, ⟨c0, c1, c2⟩, he, hxi, hxp, hxn⟩ := (HR.out.1.chg (belowN hI.out.2 1)).get hlt
        obtain ⟨b', o', y, f, rfl, ⟨d0, d1, d2⟩, hf, hyi, hyp, hyn⟩ := (HR.out.2.chg (belowN hI.out.2 1)).get hlt
        have HS := Lib.hid (ent_take he hf)
        have HC := Lib.hid (sameEntry hxp hxi hxn hyp hyi)
        obtain ⟨xm, xq, xa, xn, xc⟩ := x
        obtain ⟨ym, yq, ya, yn, yc⟩ := y
        dsimp only [vC] at c0 c1 c2 d0 d1 d2 HC
        obtain ⟨X1, fw, hX1, hfw, hF⟩ := classOf (fun w' => (w'.cell? ⟨b, o + k * 3, none⟩ = some (.int .u64 xm) ∧ w'.cell? ⟨b, o + k * 3 + 1, none⟩ = some (.int .u64 xq) ∧ w'.cell? ⟨b, o + k * 3 + 1 + 1, none⟩ = some (.slice xa xn xc)) ∧ w'.cell? ⟨b', o' + k * 3, none⟩ = some (.int .u64 ym) ∧ w'.cell? ⟨b', o' + k * 3 + 1, none⟩ = some (.int .u64 yq) ∧ w'.cell? ⟨b', o' + k * 3 + 1 + 1, none⟩ = some (.slice ya yn yc)) (w := wr.drew) ⟨⟨c0, c1, c2⟩, d0, d1, d2⟩
        have k1 := fun x => (hfw x).1.1
        have k2 := fun x => (hfw x).1.2.1
        have k3 := fun x => (hfw x).1.2.2
        have k4 := fun x => (hfw x).2.1
        have k5 := fun x => (hfw x).2.2.1
        have k6 := fun x => (hfw x).2.2.2
        have HFa := Lib.hid (hF wr.drew ⟨⟨c0, c1, c2⟩, d0, d1, d2⟩)
        clear hF hfw c0 c1 c2 d0 d1 d2 he hf hxi hxp hxn hyi hyp hyn
        go_upto_region 6 with (fail)
        refine wp_region_text ⟨[8], [9], 8⟩ (fun w' => ∃ x : X1, w' = fw x) (by kernel_rfl) (by kernel_rfl) HFa.out ?_
        refine wpC_seg false (HFa.out) 8 0 _ _ (by rfl) (by rfl) ?_
        simp only [List.take_succ_cons, List.take_zero, List.drop_succ_cons, List.drop_zero, Bool.false_eq_true, if_false, Nat.zero_add, Nat.reduceAdd]
        repeat (go_big_quiet_step (fail))
        refine wpQuiet_nil ?_
        refine wpC_loud (by rfl) (by rfl) fun K hK => ?_
        go_wp2_with fail
        refine HC.out.mono ?_
        rintro e' w2 ⟨r, rfl, hr, b2⟩
        have HR2 := Lib.hid (And.intro hr ((belowN hI.out.2 1).trans (b2.mono (belowN hI.out.2 1).size)))
        refine hK _ _ (fun h => absurd h (by decide)) ?_
        clear hK hr b2
        refine wpC_segD 1 9 _ _ (by rfl) (by rfl) ?_
        simp only [List.take_succ_cons, List.take_zero, List.drop_succ_cons, List.drop_zero, if_true, Nat.zero_add, Nat.reduceAdd]
        repeat (go_big_quiet_step (fail))
        refine wpQuiet_nil ?_
        refine wpC_nil ?_
        clear k1 k2 k3 k4 k5 k6 hX1 HFa fw
        cases r
        case' false =>
          go_wp2_with fail
          exact bodyPost_ret (results_tmp rfl _ _ _) rfl ⟨false, rfl, ⟨fun h => (by cases h), fun h => absurd (HR2.out.1.2 ((HS.out.1 (by rw [h])).2)) (by decide)⟩, HR2.out.2⟩
        case' true =>
          go_wp2_with fail
          go_roundw
          case rel => exact ⟨k + 1, by omega, by go_num, Lib.hid ⟨HS.out.2 ⟨hI.out.1, HR2.out.1.1 rfl⟩, HR2.out.2⟩⟩
          case measure => simp [intOf]; omega
      · obtain rfl : n = k := by omega
        go_wp2_with fail
        go_ret
        have h1 := hI.out.1
        rw [List.take_of_length_le (by rw [HL.out.1]; exact Nat.le_refl _), List.take_of_length_le (by rw [HL.out.2]; exact Nat.le_refl _)] at h1
        exact ⟨true, rfl, by simp [h1], hI.out.2⟩
  · have e1 : ((n : Int) == (n' : Int)) = false := by simp; omega
    have HL := Lib.hid (show E ≠ F from fun e => hnn (by rw [← hl, ← hl', e]))
    clear h h' hl hl' hnn
    go_enter Tryd.func17, Tryd.ntmps17
    go_wp2_with fail
    go_ret
    exact ⟨false, rfl, ⟨fun h => (by cases h), fun h => absurd h HL.out⟩, Below.refl _ _⟩
end Go.Proofs.YtbjpfnafhhbmaaaDoor.Sad

/- (*stream.Stream).Trim. -/
namespace Go.Proofs.YtbjpfnafhhbmaaaDoor.Sad
open Go.Proofs.YtbjpfnafhhbmaaaDoor
set_option linter.unusedVariables false
set_option linter.unusedSimpArgs false
open Go.RowKit RT Go.Shelf
theorem range_all {E : List Ent} {l : Nat × Nat} (h : ∀ e ∈ E, lessN l e.1 = false) : ((E.filter fun e => !lessN e.1 (0, 0)).takeWhile fun e => !lessN l e.1) = E := by
  rw [List.filter_eq_self.2 fun e _ => by simp [lessN]]
  induction E with
  | nil => rfl
  | cons x E ih =>
    rw [List.takeWhile_cons, if_pos (by rw [h x (by simp)]; rfl), ih fun e he => h e (by simp [he])]
theorem drop_filter {E : List Ent} (h : E.Pairwise fun x y => lessN x.1 y.1 = true) {k : Nat} (hk : k < E.length) : ((E.drop k).filter fun e => !decide (e.1 = E[k].1)) = E.drop (k + 1) := by
  rw [List.drop_eq_getElem_cons hk, List.filter_cons, if_neg (by simp), List.filter_eq_self.2]
  intro e he
  have h2 := (h.sublist (List.drop_sublist k E))
  rw [List.drop_eq_getElem_cons hk, List.pairwise_cons] at h2
  have := h2.1 e he
  simp only [Bool.not_eq_true', decide_eq_false_iff_not]
  intro e'
  rw [e', less_irrefl] at this
  cases this
theorem EntRow.blocks {w w' : World} {n₀ : Nat} {v : Value} {E : List Ent} (h : EntsOut w n₀ v E) {S : Nat → Prop} (hc : Chg S w w') (hs : ∀ k, S k → k < n₀) : EntsOut w' n₀ v E := h.chg hc fun b hb hS => by have := hs b hS; omega
theorem StmO.chg {w w' : World} {s p : Nat} {G R : Nat → Prop} {T : Option RT} {E : List Ent} {l : Nat × Nat} (h : StmO w s p G R T E l) {S : Nat → Prop} (hc : Chg S w w') (hs : ¬ S s) (hG : ∀ k, G k → ¬ S k) (hR : ∀ k, R k → ¬ S k) : StmO w' s p G R T E l :=
  ⟨StmF.chg h.core hc hs hG, Rows2.chg hc hR h.rows, h.apart, fun b hb => Nat.lt_of_lt_of_le (h.rlt b hb) hc.size, h.top⟩
theorem StmO.below {w w' : World} {s p : Nat} {G R : Nat → Prop} {T : Option RT} {E : List Ent} {l : Nat × Nat} (h : StmO w s p G R T E l) (hb : Below w.heap.size w w') : StmO w' s p G R T E l := h.chg (Chg.of_below (fun _ => False) hb) id (fun _ _ => id) fun _ _ => id
/-- How many go. -/
def trimN (n : Nat) (most : Int) : Nat := if most < 0 then 0 else n - most.toNat
set_option maxHeartbeats 3200000 in
set_option maxRecDepth 100000 in
theorem stmTrim {w : World} {s p : Nat} {G R : Nat → Prop} {T : Option RT} {E : List Ent} {l : Nat × Nat} (h : StmO w s p G R T E l) (hn : E.length ≤ 400000) (hrise : E.Pairwise fun x y => lessN x.1 y.1 = true) (h64 : ∀ e ∈ E, e.1.1 < 18446744073709551616 ∧ e.1.2 < 18446744073709551616) {most : Int} (hm1 : -9223372036854775808 ≤ most) (hm2 : most ≤ 9223372036854775807) :
    Calls Tryd.prog 34 #[ptrV s, .int .i64 most] w fun e w' => e = .returned (.int .i64 (trimN E.length most : Nat)) ∧ ∃ G' T', StmO w' s p G' R T' (E.drop (trimN E.length most)) l ∧ Fresh w G G' ∧ Chg G w w' := by
  obtain ⟨N, hN⟩ : ∃ N, E.length = N := ⟨_, rfl⟩
  have HLen := Lib.hid (stmLen h.core)
  rw [hN] at HLen
  have H0 := Lib.hid h
  unfold ptrV at HLen
  unfold ptrV
  rcases (show most < 0 ∨ 0 ≤ most by omega) with hneg | hpos
  · have ht : trimN E.length most = 0 := by unfold trimN; rw [if_pos hneg]
    rw [ht]
    have e1 : decide (most < 0) = true := decide_eq_true hneg
    clear h hN ht HLen hneg
    go_enter Tryd.func34, Tryd.ntmps34
    go_wp2_with fail
    go_ret
    exact ⟨rfl, G, T, by rw [List.drop_zero]; exact H0.out, fun k hk => .inl hk, Chg.refl _ _⟩
  · obtain ⟨mo, rfl⟩ : ∃ mo : Nat, most = mo := ⟨most.toNat, by omega⟩
    have ht : trimN E.length mo = N - mo := by unfold trimN; rw [if_neg (by omega), hN]; simp
    rw [ht]
    have e1 : decide ((mo : Int) < 0) = false := decide_eq_false (by omega)
    rcases Nat.lt_or_ge mo N with hmN | hmN
    · obtain ⟨m, hm⟩ : ∃ m, N - mo = m := ⟨_, rfl⟩
      rw [hm]
      have hmle : m ≤ N := by omega
      have e2 : decide ((N : Int) ≤ (mo : Int)) = false := decide_eq_false (by omega)
      have e2' : decide (N ≤ mo) = false := decide_eq_false (by omega)
      have e3 : (N : Int) - (mo : Int) = (m : Int) := by omega
      have e4 : IntKind.i64.wrap ((N : Int) - (mo : Int)) = (m : Int) := by rw [e3]; exact IntWalk.i64_in _ (by omega)
      have HLd0 := fun w' (hb : Below w.heap.size w w') => stmLen (h.core.below hb)
      rw [hN] at HLd0
      have HLd := Lib.hid HLd0
      have HRg := stmRange (c := l.1) (d := l.2) (most := (m : Int)) (h.core.below (belowN (Below.refl w.heap.size w) 1)) (Rows2.chg (Chg.drewN (fun _ => False) w 1) (fun _ _ => id) h.rows) (h.nodes hn) (a := 0) (b := 0) (by omega) (by omega)
      rw [show ((l.1, l.2) : Nat × Nat) = l from rfl, range_all h.top, show ((m : Int)).toNat = m by omega] at HRg
      have HR := Lib.hid HRg
      have c1 := cell_in h.core.head (i := 1) rfl
      have c2 := cell_in h.core.head (i := 2) rfl
      have HC := Lib.hid (show ∀ w', Below w.heap.size w w' → w'.cell? ⟨s, 1, none⟩ = some (.int .u64 l.1) ∧ w'.cell? ⟨s, 2, none⟩ = some (.int .u64 l.2) from fun w' hb => by
        have e1 := (hb.block _ (heap_lt h.core.head)).trans h.core.head
        exact ⟨cell_in e1 rfl, cell_in e1 rfl⟩)
      clear c1 c2
      obtain ⟨lm, lq⟩ := l
      have c0 := HC.out w.drew (belowN (Below.refl _ _) 1)
      obtain ⟨X1, f, hX1, hf, hF⟩ := classOf (fun w' => w'.cell? ⟨s, 1, none⟩ = some (.int .u64 lm) ∧ w'.cell? ⟨s, 2, none⟩ = some (.int .u64 lq)) (w := w.drew) c0
      have f1 := fun x => (hf x).1
      have f2 := fun x => (hf x).2
      have HFa := Lib.hid (hF w.drew c0)
      have HE := Lib.hid (And.intro hN (And.intro hrise (And.intro h64 hn)))
      have HM := Lib.hid (And.intro hm hmN)
      have hN2 : N ≤ 400000 := by omega
      dsimp only at HR
      clear hF hf h c0 hN hrise h64 hm hmN ht HRg hm1 hm2 hn e3 HLd0
      unfold ptrV at HLd HR
      go_enter Tryd.func34, Tryd.ntmps34
      go_wp2_with fail
      refine HLen.out.mono ?_
      rintro e w' ⟨rfl, rfl⟩
      go_upto_region 3 with (fail)
      refine wp_region_text ⟨[7, 10], [11], 10⟩ (fun w' => ∃ x : X1, w' = f x) (by kernel_rfl) (by kernel_rfl) HFa.out ?_
      refine wpC_seg false (HFa.out) 7 0 _ _ (by rfl) (by rfl) ?_
      simp only [List.take_succ_cons, List.take_zero, List.drop_succ_cons, List.drop_zero, Bool.false_eq_true, if_false, Nat.zero_add, Nat.reduceAdd]
      repeat (go_big_quiet_step (fail))
      refine wpQuiet_nil ?_
      refine wpC_loud (by rfl) (by rfl) fun K hK => ?_
      go_wp2_with fail
      refine (HLd.out _ (belowN (Below.refl _ _) 1)).mono ?_
      rintro e w2 ⟨rfl, hww⟩
      rw [hww]
      refine hK _ _ (fun _ => HFa.out) ?_
      clear hK hww w2
      refine wpC_seg false (HFa.out) 2 8 _ _ (by rfl) (by rfl) ?_
      simp only [List.take_succ_cons, List.take_zero, List.drop_succ_cons, List.drop_zero, Bool.false_eq_true, if_false, Nat.zero_add, Nat.reduceAdd]
      repeat (go_big_quiet_step (fail))
      refine wpQuiet_nil ?_
      clear e4
      refine wpC_loud (by rfl) (by rfl) fun K hK => ?_
      go_wp2_with fail
      refine HR.out.mono ?_
      rintro e w2 ⟨v, rfl, o2, b2⟩
      have HB2 := Lib.hid ((belowN (Below.refl w'.heap.size w') 1).trans b2)
      obtain ⟨av, cv, rfl, _, _⟩ := o2.form
      have hlt : (E.take m).length = m := by rw [List.length_take]; have := HE.out.1; omega
      rw [hlt] at o2 ⊢
      have HO := Lib.hid o2
      have HlT := Lib.hid hlt
      refine hK _ _ (fun h => absurd h (by decide)) ?_
      clear hK b2 o2 hlt
      refine wpC_segD 1 11 _ _ (by rfl) (by rfl) ?_
      simp only [List.take_succ_cons, List.take_zero, List.drop_succ_cons, List.drop_zero, if_true, Nat.zero_add, Nat.reduceAdd]
      repeat (go_big_quiet_step (fail))
      refine wpQuiet_nil ?_
      refine wpC_nil ?_
      clear f1 f2 hX1 HFa f HR HLd HLen
      go_wp2_with fail
      go_loopw [29] (fun i wr => ∃ k : Nat, k ≤ m ∧ i = .int .i64 k ∧ Hid (∃ G' T', StmO wr s p G' R T' (E.drop k) (lm, lq) ∧ Fresh w2 G G' ∧ Chg G w2 wr)) (fun i _ => m - (intOf i).toNat)
      case atStart => exact ⟨0, Nat.zero_le _, rfl, Lib.hid ⟨G, T, by rw [List.drop_zero]; exact H0.out.below HB2.out, fun k hk => .inl hk, Chg.refl _ _⟩⟩
      case round =>
        obtain ⟨k, hk, rfl, hI⟩ := hrel
        by_cases hlt : k < m
        · obtain ⟨G', T', hO, hfr, hch⟩ := hI.out
          have hGlt : ∀ j, G j → j < w'.heap.size := H0.out.core.tree.1
          have ho := EntRow.blocks HO.out hch hGlt
          obtain ⟨ar, cr, hv, hrow⟩ := ho.row
          rw [HlT.out] at hv hrow
          simp only [Value.slice.injEq, true_and] at hv
          obtain ⟨rfl, rfl⟩ := hv
          obtain ⟨b, o, x, e, rfl, ⟨c0, c1, c2⟩, he, hxi, _⟩ := hrow.get hlt
          obtain ⟨xm, xq, xa, xn, xc⟩ := x
          dsimp only [vC] at c0 c1 c2
          have heE : E[k]? = some e := by rw [List.getElem?_take_of_lt hlt] at he; exact he
          obtain ⟨hkE, hek⟩ := List.getElem?_eq_some_iff.1 heE
          have he1 : e.1 = (xm, xq) := hxi.symm
          have h64 := HE.out.2.2.1 e (by rw [← hek]; exact List.getElem_mem hkE)
          rw [he1] at h64
          obtain ⟨W5, hW5⟩ : ∃ W5, W5 = wr.alloc (.cells #[.int .u64 xm, .int .u64 xq, .slice xa xn xc] 39) := ⟨_, rfl⟩
          have hb5 : Below wr.heap.size wr W5 := by rw [hW5]; exact (Below.refl _ _).alloc (Nat.le_refl _) _
          have h55 : W5.heap[wr.heap.size]? = some (.cells #[.int .u64 xm, .int .u64 xq, .slice xa xn xc] 39 (0, 0)) := by rw [hW5]; exact heap_new _ _
          have hO5 := hO.below hb5
          have hO5d := hO5.below (belowN (Below.refl W5.heap.size W5) 1)
          have HD := Lib.hid (tree_del hO5d (by rw [List.length_drop]; have := HE.out.2.2.2; omega) h64.1 h64.2)
          have HEnd := Lib.hid (show ∀ w3 G'' T'', StmO w3 s p G'' R T'' ((E.drop k).filter fun e => !decide (e.1 = (xm, xq))) (lm, lq) → Fresh (W5.drewN 1) G' G'' → Chg G' (W5.drewN 1) w3 → ∃ G' T', StmO w3 s p G' R T' (E.drop (k + 1)) (lm, lq) ∧ Fresh w2 G G' ∧ Chg G w2 w3 from fun w3 G'' T'' h1 h2 h3 => by
            rw [← he1, ← hek, drop_filter HE.out.2.1 hkE] at h1
            have hsz : w2.heap.size ≤ W5.heap.size := Nat.le_trans hch.size hb5.size
            refine ⟨G'', T'', h1, fun j hj => ?_, ((hch.trans (Chg.of_below G (hb5.trans ((belowN (Below.refl W5.heap.size W5) 1).mono hb5.size))) fun _ h _ => h).trans h3 fun j hj hlt => ?_)⟩
            · rcases h2 j hj with h' | h'
              · exact hfr j h'
              · exact .inr (Nat.le_trans hsz h')
            · rcases hfr j hj with h' | h'
              · exact h'
              · omega)
          have hc0 := cell_in hO5d.core.head (i := 0) rfl
          have hc1 := cell_in h55 (i := 0) rfl
          have hc2 := cell_in h55 (i := 1) rfl
          unfold ptrV at hc0
          obtain ⟨X1, f, hX1, hf, hF⟩ := classOf (fun w' => w'.cell? ⟨s, 0, none⟩ = some (.pointer (some ⟨p, 0, none⟩)) ∧ w'.cell? ⟨wr.heap.size, 0, none⟩ = some (.int .u64 xm) ∧ w'.cell? ⟨wr.heap.size, 1, none⟩ = some (.int .u64 xq)) (w := W5.drew) ⟨hc0, hc1, hc2⟩
          have f1 := fun x => (hf x).1
          have f2 := fun x => (hf x).2.1
          have f3 := fun x => (hf x).2.2
          have HFa := Lib.hid (hF W5.drew ⟨hc0, hc1, hc2⟩)
          have HW5 := Lib.hid hW5
          unfold ptrV at HD
          clear hF hf hc0 hc1 hc2 hO hfr hch hGlt ho hrow hxi he heE hkE hek he1 h64 hW5 hb5 h55 hO5 hO5d hI
          go_upto_region 7 with (fail)
          rw [← HW5.out]
          refine wp_region_text ⟨[6], [], 6⟩ (fun w' => ∃ x : X1, w' = f x) (by kernel_rfl) (by kernel_rfl) HFa.out ?_
          refine wpC_seg false (HFa.out) 6 0 _ _ (by rfl) (by rfl) ?_
          simp only [List.take_succ_cons, List.take_zero, List.drop_succ_cons, List.drop_zero, Bool.false_eq_true, if_false, Nat.zero_add, Nat.reduceAdd]
          repeat (go_big_quiet_step (fail))
          refine wpQuiet_nil ?_
          refine wpC_loud (by rfl) (by rfl) fun K hK => ?_
          go_wp2_with fail
          refine HD.out.mono ?_
          rintro e' w3 ⟨rfl, G'', T'', h1, h2, h3⟩
          have HN := Lib.hid (HEnd.out w3 G'' T'' h1 h2 h3)
          refine hK _ _ (fun h => absurd h (by decide)) ?_
          clear hK h1 h2 h3 HEnd HD
          refine wpC_nil ?_
          clear f1 f2 f3 hX1 HFa f c0 c1 c2
          go_wp2_with fail
          go_roundw
          case rel => exact ⟨k + 1, by omega, by go_num, HN⟩
          case measure => simp [intOf]; omega
        · obtain rfl : m = k := by omega
          obtain ⟨G', T', hO, hfr, hch⟩ := hI.out
          have HN := Lib.hid (And.intro hO (And.intro (show Fresh w' G G' from fun j hj => (hfr j hj).imp id fun h => Nat.le_trans HB2.out.size h) ((Chg.of_below G HB2.out).trans hch fun _ h _ => h)))
          clear hO hfr hch hI
          go_wp2_with fail
          go_ret
          exact ⟨rfl, _, _, HN.out⟩
    · have hz : N - mo = 0 := by omega
      rw [hz]
      have e2 : decide ((N : Int) ≤ (mo : Int)) = true := decide_eq_true (by omega)
      have e2' : decide (N ≤ mo) = true := decide_eq_true hmN
      clear h hN ht hpos hz
      go_enter Tryd.func34, Tryd.ntmps34
      go_wp2_with fail
      refine HLen.out.mono ?_
      rintro e w' ⟨rfl, rfl⟩
      go_wp2_with fail
      go_ret
      exact ⟨rfl, G, T, by rw [List.drop_zero]; exact H0.out, fun k hk => .inl hk, Chg.refl _ _⟩
end Go.Proofs.YtbjpfnafhhbmaaaDoor.Sad

/- rows of asks; the law's played. -/
namespace Go.Proofs.YtbjpfnafhhbmaaaDoor.Sad
open Go.Proofs.YtbjpfnafhhbmaaaDoor
set_option linter.unusedVariables false
set_option linter.unusedSimpArgs false
open Go.RowKit RT Go.Shelf
theorem stm_trim {w : World} {s : Nat} {F : Nat → Prop} {E : List Ent} {l : Nat × Nat} (h : Stm w s F E l) (hn : E.length ≤ 400000) {most : Int} (hm1 : -9223372036854775808 ≤ most) (hm2 : most ≤ 9223372036854775807) :
    Calls Tryd.prog 34 #[ptrV s, .int .i64 most] w fun e w' => e = .returned (.int .i64 (trimN E.length most : Nat)) ∧ ∃ F', Stm w' s F' (E.drop (trimN E.length most)) l ∧ Fresh w F F' ∧ Chg F w w' := by
  have hr := h.rise
  have h6 := h.lt64.2
  obtain ⟨p, G, R, T, h, hF⟩ := h
  refine (stmTrim h hn hr h6 hm1 hm2).mono ?_
  rintro e w' ⟨rfl, G', T', h1, h2, h3⟩
  refine ⟨rfl, fun j => j = s ∨ G' j ∨ R j, ⟨p, G', R, T', h1, fun k => Iff.rfl⟩, ?_, h3.mono fun j hj _ => (hF j).2 (.inr (.inl hj))⟩
  rintro j (rfl | hj | hj)
  · exact .inl ((hF _).2 (.inl rfl))
  · exact (h2 j hj).imp (fun h => (hF _).2 (.inr (.inl h))) id
  · exact .inl ((hF _).2 (.inr (.inr hj)))
/-- An ask. -/
structure AskN where
  k : Int
  id : Nat × Nat
  a : Option Addr
  n : Nat
  c : Nat
  L : List PairT
  to : Nat × Nat
  N : Int
/-- It stands in memory from a cell on. -/
structure AskAt (w : World) (b o : Nat) (A : AskN) : Prop where
  c0 : w.cell? ⟨b, o, none⟩ = some (.int .u8 A.k)
  c1 : w.cell? ⟨b, o + 1, none⟩ = some (.int .u64 A.id.1)
  c2 : w.cell? ⟨b, o + 1 + 1, none⟩ = some (.int .u64 A.id.2)
  c3 : w.cell? ⟨b, o + 1 + 1 + 1, none⟩ = some (.slice A.a A.n A.c)
  c4 : w.cell? ⟨b, o + 4, none⟩ = some (.int .u64 A.to.1)
  c5 : w.cell? ⟨b, o + 4 + 1, none⟩ = some (.int .u64 A.to.2)
  c6 : w.cell? ⟨b, o + 6, none⟩ = some (.int .i64 A.N)
  row : PairRow w A.a A.n A.c A.L
  nle : A.n ≤ 1048576
  kb : 0 ≤ A.k ∧ A.k ≤ 255
  idb : A.id.1 < 18446744073709551616 ∧ A.id.2 < 18446744073709551616
  tob : A.to.1 < 18446744073709551616 ∧ A.to.2 < 18446744073709551616
  nb : -9223372036854775808 ≤ A.N ∧ A.N ≤ 9223372036854775807
theorem AskAt.below {w w' : World} {b o : Nat} {A : AskN} (h : AskAt w b o A) (hb : Below w.heap.size w w') : AskAt w' b o A := by
  have e : ∀ x v, w.cell? ⟨b, x, none⟩ = some v → w'.cell? ⟨b, x, none⟩ = some v := fun x v hv => (hb.cell (p := ⟨b, x, none⟩) (World.block_lt_of_cell? w _ hv)).trans hv
  exact ⟨e _ _ h.c0, e _ _ h.c1, e _ _ h.c2, e _ _ h.c3, e _ _ h.c4, e _ _ h.c5, e _ _ h.c6, h.row.below hb, h.nle, h.kb, h.idb, h.tob, h.nb⟩
def AskRow (w : World) (a : Option Addr) (n c : Nat) (Q : List AskN) : Prop :=
  Q.length = n ∧ n ≤ c ∧ (n = 0 ∨ ∃ b o, a = some ⟨b, o, none⟩ ∧ ∀ i (h : i < Q.length), AskAt w b (o + i * 7) Q[i])
theorem AskRow.below {w w' : World} {a : Option Addr} {n c : Nat} {Q : List AskN} (h : AskRow w a n c Q) (hb : Below w.heap.size w w') : AskRow w' a n c Q := by
  refine ⟨h.1, h.2.1, h.2.2.imp id ?_⟩
  rintro ⟨b, o, e, hc⟩
  exact ⟨b, o, e, fun i hi => (hc i hi).below hb⟩
theorem AskRow.get {w : World} {a : Option Addr} {n c : Nat} {Q : List AskN} (h : AskRow w a n c Q) {i : Nat} (hi : i < n) : ∃ b o A, a = some ⟨b, o, none⟩ ∧ AskAt w b (o + i * 7) A ∧ Q[i]? = some A := by
  obtain ⟨h1, h2, h3⟩ := h
  obtain ⟨b, o, e, hc⟩ := h3.resolve_left (by omega)
  exact ⟨b, o, Q[i]'(by omega), e, hc i (by omega), List.getElem?_eq_getElem _⟩
/-- May the ask's entry be added? -/
def mayAdd (l : Nat × Nat) (A : AskN) : Bool := decide (A.n ≠ 0) && !A.L.any longP && lessN l A.id
def addP (st : List Ent × (Nat × Nat)) (A : AskN) : List Ent × (Nat × Nat) := if mayAdd st.2 A then (st.1 ++ [(A.id, A.L)], A.id) else st
/-- A stream behind an ask. -/
def stepP (st : List Ent × (Nat × Nat)) (A : AskN) : List Ent × (Nat × Nat) :=
  if A.k = 2 then (st.1.filter fun e => !decide (e.1 = A.id), st.2)
  else if A.k = 3 then (st.1, if lessN A.id st.2 then st.2 else A.id)
  else if A.k = 5 then (st.1.drop (trimN st.1.length A.N), st.2)
  else addP st A
def playP (Q : List AskN) (k : Nat) : List Ent × (Nat × Nat) := (Q.take k).foldl stepP ([], (0, 0))
theorem playP_succ {Q : List AskN} {k : Nat} {A : AskN} (h : Q[k]? = some A) : playP Q (k + 1) = stepP (playP Q k) A := by
  obtain ⟨hk, rfl⟩ := List.getElem?_eq_some_iff.1 h
  unfold playP
  rw [List.take_succ_eq_append_getElem hk, List.foldl_append]
  rfl
theorem stepP_len (st : List Ent × (Nat × Nat)) (A : AskN) : (stepP st A).1.length ≤ st.1.length + 1 := by
  unfold stepP addP
  split
  · exact Nat.le_succ_of_le (List.length_filter_le _ _)
  · split
    · exact Nat.le_succ _
    · split
      · show (st.1.drop _).length ≤ _
        rw [List.length_drop]; omega
      · split
        · show (st.1 ++ _).length ≤ _
          simp
        · exact Nat.le_succ _
theorem playP_len (Q : List AskN) : ∀ k, (playP Q k).1.length ≤ k
  | 0 => by simp [playP]
  | k + 1 => by
    cases h : Q[k]? with
    | none =>
      have hk := List.getElem?_eq_none_iff.1 h
      have e : playP Q (k + 1) = playP Q k := by unfold playP; rw [List.take_of_length_le hk, List.take_of_length_le (by omega)]
      rw [e]
      exact Nat.le_succ_of_le (playP_len Q k)
    | some A =>
      rw [playP_succ h]
      exact Nat.le_trans (stepP_len _ _) (Nat.succ_le_succ (playP_len Q k))
/-- Add of an ask's entry. -/
theorem stm_addAsk {w : World} {s : Nat} {F : Nat → Prop} {E : List Ent} {l : Nat × Nat} (h : Stm w s F E l) (hn : E.length < 1048576) {A : AskN} (hp : PairRow w A.a A.n A.c A.L) (hk : A.n ≤ 4000000000000) (hid : A.id.1 < 18446744073709551616 ∧ A.id.2 < 18446744073709551616) :
    Calls Tryd.prog 25 #[ptrV s, .agg #[.int .u64 A.id.1, .int .u64 A.id.2, .slice A.a A.n A.c]] w fun e w' => e = .returned (.int .i64 (if mayAdd l A then 0 else 1)) ∧ ∃ F', Stm w' s F' (addP (E, l) A).1 (addP (E, l) A).2 ∧ Fresh w F F' ∧ Chg F w w' := by
  by_cases hm : mayAdd l A = true
  · have hm' := hm
    unfold mayAdd at hm'
    simp only [Bool.and_eq_true, decide_eq_true_eq, Bool.not_eq_true'] at hm'
    refine (stm_add h hp hk hid.1 hid.2 (by omega) hm'.1.2 hm'.2 hn).mono ?_
    rintro e w' ⟨rfl, F', h1, h2, h3⟩
    unfold addP
    rw [if_pos hm, if_pos hm]
    exact ⟨rfl, F', h1, h2, h3⟩
  · have hm' : mayAdd l A = false := by simpa using hm
    unfold mayAdd at hm'
    refine (stm_add_bad h hp (by omega) A.id.1 A.id.2 ?_).mono ?_
    · rw [Bool.and_eq_false_iff, Bool.and_eq_false_iff] at hm'
      rcases hm' with (h' | h') | h'
      · left; simpa using h'
      · right; left; simpa using h'
      · right; right; exact h'
    · rintro e w' ⟨rfl, h1⟩
      unfold addP
      rw [if_neg hm, if_neg hm]
      exact ⟨rfl, F, h.below h1, fun k hk => .inl hk, Chg.of_below _ h1⟩
set_option maxHeartbeats 6400000 in
set_option maxRecDepth 100000 in
theorem played_any {w : World} {a : Option Addr} {n c : Nat} {Q : List AskN} (h : AskRow w a n c Q) (hn : n ≤ 281474976710656) :
    Calls Tryd.prog 14 #[.slice a n c] w fun e w' => ∃ s F, e = .returned (ptrV s) ∧ Stm w' s F (playP Q 200).1 (playP Q 200).2 ∧ (∀ k, F k → w.heap.size ≤ k) ∧ Below w.heap.size w w' := by
  have HN := Lib.hid (stm_new w)
  have HR := Lib.hid h
  clear h
  go_enter Tryd.func14, Tryd.ntmps14
  go_wp2_with fail
  refine HN.out.mono ?_
  rintro e w1 ⟨s, F, rfl, h1, h2, h3⟩
  have H1 := Lib.hid (show ∃ F, Stm w1 s F (playP Q 0).1 (playP Q 0).2 ∧ (∀ k, F k → w.heap.size ≤ k) ∧ Below w.heap.size w w1 from ⟨F, h1, h3, h2⟩)
  clear h1 h2 h3 HN
  unfold ptrV
  go_wp2_with fail
  go_loopw [4] (fun i wr => ∃ k : Nat, (k ≤ n ∧ k ≤ 200) ∧ i = .int .i64 k ∧ Hid (∃ F, Stm wr s F (playP Q k).1 (playP Q k).2 ∧ (∀ k, F k → w.heap.size ≤ k) ∧ Below w.heap.size w wr)) (fun i _ => n - (intOf i).toNat)
  case atStart => exact ⟨0, ⟨Nat.zero_le _, Nat.zero_le _⟩, rfl, H1⟩
  case round =>
    obtain ⟨k, ⟨hk, hk2⟩, rfl, hI⟩ := hrel
    by_cases hlt : k < n ∧ k < 200
    · obtain ⟨hlt, hlt2⟩ := hlt
      obtain ⟨F, hS, hF, hB⟩ := hI.out
      obtain ⟨b, o, A, rfl, hA, hQ⟩ := (HR.out.below hB).get hlt
      have hlen := playP_len Q k
      have hsucc := playP_succ hQ
      have c0 := hA.c0
      have c1 := hA.c1
      have c2 := hA.c2
      have c3 := hA.c3
      have c6 := hA.c6
      have HEnd := Lib.hid (show ∀ w' F', Stm w' s F' (playP Q (k + 1)).1 (playP Q (k + 1)).2 → Fresh wr F F' → Chg F wr w' → ∃ F, Stm w' s F (playP Q (k + 1)).1 (playP Q (k + 1)).2 ∧ (∀ k, F k → w.heap.size ≤ k) ∧ Below w.heap.size w w' from fun w' F' h1 h2 h3 =>
        ⟨F', h1, fun j hj => by rcases h2 j hj with h' | h'; exact hF j h'; exact Nat.le_trans hB.size h', belowChg hB h3 hB.size fun j hj _ => hF j hj⟩)
      have j1 : (k : Int) < (n : Int) := by omega
      have j2 : decide ((k : Int) < 200) = true := decide_eq_true (by omega)
      have HK := Lib.hid (And.intro hlt hlt2)
      by_cases hk2' : A.k = 2
      · have e1 : (A.k == 2) = true := by simp [hk2']
        have hC := stm_del hS (by omega) hA.idb.1 hA.idb.2
        unfold ptrV at hC
        have HC := Lib.hid hC
        have hst : playP Q (k + 1) = ((playP Q k).1.filter fun e => !decide (e.1 = A.id), (playP Q k).2) := by rw [hsucc]; unfold stepP; rw [if_pos hk2']
        have HST := Lib.hid hst
        clear hC hst hS hF hB hA hQ hlen hsucc hI hk2'
        go_wp2_with fail
        refine HC.out.mono ?_
        rintro e w2 ⟨rfl, F', h1, h2, h3⟩
        have HN := Lib.hid (HEnd.out w2 F' (by rw [HST.out]; exact h1) h2 h3)
        clear h1 h2 h3 HEnd HC c0 c1 c2 c3 c6
        go_wp2_with fail
        go_roundw
        case rel => exact ⟨k + 1, ⟨by omega, by omega⟩, by go_num, HN⟩
        case measure => simp [intOf]; omega
      · have e1 : (A.k == 2) = false := by simp [hk2']
        by_cases hk3 : A.k = 3
        · have e2 : (A.k == 3) = true := by simp [hk3]
          have hC : Calls Tryd.prog 33 #[ptrV s, .agg #[.int .u64 A.id.1, .int .u64 A.id.2]] wr fun e w' => ∃ v, e = .returned v ∧ ∃ F', Stm w' s F' (playP Q k).1 (if lessN A.id (playP Q k).2 then (playP Q k).2 else A.id) ∧ Fresh wr F F' ∧ Chg F wr w' :=
            (stm_setLast hS hA.idb.1 hA.idb.2).mono fun e w' ⟨h1, h2, h3⟩ => ⟨_, h1, F, h2, fun j hj => .inl hj, h3⟩
          unfold ptrV at hC
          have HC := Lib.hid hC
          have hst : playP Q (k + 1) = ((playP Q k).1, if lessN A.id (playP Q k).2 then (playP Q k).2 else A.id) := by rw [hsucc]; unfold stepP; rw [if_neg hk2', if_pos hk3]
          have HST := Lib.hid hst
          clear hC hst hS hF hB hA hQ hlen hsucc hI hk2' hk3
          go_wp2_with fail
          refine HC.out.mono ?_
          rintro e w2 ⟨v, rfl, F', h1, h2, h3⟩
          have HN := Lib.hid (HEnd.out w2 F' (by rw [HST.out]; exact h1) h2 h3)
          clear h1 h2 h3 HEnd HC c0 c1 c2 c3 c6
          go_wp2_with fail
          go_roundw
          case rel => exact ⟨k + 1, ⟨by omega, by omega⟩, by go_num, HN⟩
          case measure => simp [intOf]; omega
        · have e2 : (A.k == 3) = false := by simp [hk3]
          by_cases hk5 : A.k = 5
          · have e3 : (A.k == 5) = true := by simp [hk5]
            have hC := stm_trim hS (by omega) hA.nb.1 hA.nb.2
            unfold ptrV at hC
            have HC := Lib.hid hC
            have hst : playP Q (k + 1) = ((playP Q k).1.drop (trimN (playP Q k).1.length A.N), (playP Q k).2) := by rw [hsucc]; unfold stepP; rw [if_neg hk2', if_neg hk3, if_pos hk5]
            have HST := Lib.hid hst
            clear hC hst hS hF hB hA hQ hlen hsucc hI hk2' hk3 hk5
            go_wp2_with fail
            refine HC.out.mono ?_
            rintro e w2 ⟨rfl, F', h1, h2, h3⟩
            have HN := Lib.hid (HEnd.out w2 F' (by rw [HST.out]; exact h1) h2 h3)
            clear h1 h2 h3 HEnd HC c0 c1 c2 c3 c6
            go_wp2_with fail
            go_roundw
            case rel => exact ⟨k + 1, ⟨by omega, by omega⟩, by go_num, HN⟩
            case measure => simp [intOf]; omega
          · have e3 : (A.k == 5) = false := by simp [hk5]
            have hC := stm_addAsk hS (by omega) hA.row (Nat.le_trans hA.nle (by decide)) hA.idb
            unfold ptrV at hC
            have HC := Lib.hid hC
            have hst : playP Q (k + 1) = addP ((playP Q k).1, (playP Q k).2) A := by rw [hsucc]; unfold stepP; rw [if_neg hk2', if_neg hk3, if_neg hk5]
            have HST := Lib.hid hst
            clear hC hst hS hF hB hA hQ hlen hsucc hI hk2' hk3 hk5
            go_wp2_with fail
            refine HC.out.mono ?_
            rintro e w2 ⟨rfl, F', h1, h2, h3⟩
            have HN := Lib.hid (HEnd.out w2 F' (by rw [HST.out]; exact h1) h2 h3)
            clear h1 h2 h3 HEnd HC c0 c1 c2 c3 c6
            go_wp2_with fail
            go_roundw
            case rel => exact ⟨k + 1, ⟨by omega, by omega⟩, by go_num, HN⟩
            case measure => simp [intOf]; omega
    · have HEnd := Lib.hid (show playP Q k = playP Q 200 by
        unfold playP
        rcases Nat.lt_or_ge k 200 with h' | h'
        · have : n ≤ k := by omega
          have hq := HR.out.1
          rw [List.take_of_length_le (by omega), List.take_of_length_le (by omega)]
        · rw [show k = 200 by omega])
      rcases Nat.lt_or_ge k n with h' | h'
      · have j1 : (k : Int) < (n : Int) := by omega
        have j2 : decide ((k : Int) < 200) = false := decide_eq_false (by omega)
        clear hlt
        go_wp2_with fail
        go_ret
        obtain ⟨F, h1, h2, h3⟩ := hI.out
        rw [HEnd.out] at h1
        exact ⟨s, F, rfl, h1, h2, h3⟩
      · obtain rfl : n = k := by omega
        clear hlt
        go_wp2_with fail
        go_ret
        obtain ⟨F, h1, h2, h3⟩ := hI.out
        rw [HEnd.out] at h1
        exact ⟨s, F, rfl, h1, h2, h3⟩
end Go.Proofs.YtbjpfnafhhbmaaaDoor.Sad

/- a stream that is not there: nil, or the zero one. -/
namespace Go.Proofs.YtbjpfnafhhbmaaaDoor.Sad
open Go.Proofs.YtbjpfnafhhbmaaaDoor
set_option linter.unusedVariables false
set_option linter.unusedSimpArgs false
open Go.RowKit RT Go.Shelf
/-- v is no stream that is there. -/
def Gone (w : World) (v : Value) : Prop := v = .pointer none ∨ ∃ z, v = .pointer (some ⟨z, 0, none⟩) ∧ w.heap[z]? = some (.cells #[.pointer none, .int .u64 0, .int .u64 0] 53 (0, 0))
theorem Gone.below {w w' : World} {v : Value} (h : Gone w v) (hb : Below w.heap.size w w') : Gone w' v := h.imp id fun ⟨z, e, hz⟩ => ⟨z, e, (hb.block _ (heap_lt hz)).trans hz⟩
theorem there_no {w : World} {v : Value} (h : Gone w v) : Calls Tryd.prog 35 #[v] w fun e w' => e = .returned (.bool false) ∧ w' = w := by
  rcases h with rfl | ⟨z, rfl, hz⟩
  · go_enter Tryd.func35, Tryd.ntmps35
    go_wp2_with fail
    go_ret
    exact ⟨rfl, rfl⟩
  · have c0 := cell_in hz (i := 0) rfl
    clear hz
    go_enter Tryd.func35, Tryd.ntmps35
    go_wp2_with fail
    go_ret
    exact ⟨rfl, rfl⟩
set_option maxHeartbeats 1600000 in
set_option maxRecDepth 100000 in
theorem len_no {w : World} {v : Value} (h : Gone w v) : Calls Tryd.prog 22 #[v] w fun e w' => e = .returned (.int .i64 0) ∧ w' = w := by
  have HT := Lib.hid (there_no h)
  clear h
  go_enter Tryd.func22, Tryd.ntmps22
  go_wp2_with fail
  refine HT.out.mono ?_
  rintro e w' ⟨rfl, rfl⟩
  go_wp2_with fail
  go_ret
  exact ⟨rfl, rfl⟩
set_option maxHeartbeats 1600000 in
set_option maxRecDepth 100000 in
theorem add_no {w : World} {v : Value} (h : Gone w v) (x y : Int) (a : Option Addr) (n c : Nat) : Calls Tryd.prog 25 #[v, .agg #[.int .u64 x, .int .u64 y, .slice a n c]] w fun e w' => e = .returned (.int .i64 2) ∧ Below w.heap.size w w' := by
  obtain ⟨w1, hw1⟩ : ∃ w1, w1 = w.alloc (.cells #[.int .u64 x, .int .u64 y, .slice a n c] 39) := ⟨_, rfl⟩
  have hb1 : Below w.heap.size w w1 := by rw [hw1]; exact (Below.refl _ _).alloc (Nat.le_refl _) _
  have HT := Lib.hid (there_no (h.below hb1))
  have HW := Lib.hid hw1
  have HB := Lib.hid hb1
  clear h hw1 hb1
  go_enter Tryd.func25, Tryd.ntmps25
  go_wp2_with fail
  rw [← HW.out]
  refine HT.out.mono ?_
  rintro e w' ⟨rfl, hww⟩
  rw [hww]
  clear hww w'
  go_wp2_with fail
  go_ret
  exact ⟨rfl, HB.out⟩
set_option maxHeartbeats 1600000 in
set_option maxRecDepth 100000 in
theorem next_gone {w : World} {v : Value} (h : Gone w v) (x : Int) : Calls Tryd.prog 23 #[v, .int .i64 x] w fun e w' => e = .returned (.tuple #[.agg #[.int .u64 0, .int .u64 0], .bool false]) ∧ Below w.heap.size w w' := by
  obtain ⟨w1, hw1⟩ : ∃ w1, w1 = w.alloc (.cells #[.int .u64 0, .int .u64 0] 24) := ⟨_, rfl⟩
  have hb1 : Below w.heap.size w w1 := by rw [hw1]; exact (Below.refl _ _).alloc (Nat.le_refl _) _
  have hh1 : w1.heap[w.heap.size]? = some (.cells #[.int .u64 0, .int .u64 0] 24 (0, 0)) := by rw [hw1]; exact heap_new _ _
  have HT := Lib.hid (there_no (h.below hb1))
  have g0 := cell_in hh1 (i := 0) rfl
  have g1 := frozen_in hh1 0
  have k1 := cell_in (setCell_head hh1 0 (.int .u64 0)) (i := 1) rfl
  have k2 := frozen_in (setCell_head hh1 0 (.int .u64 0)) 1
  have HE := Lib.hid (show (((w1.setCell ⟨w.heap.size, 0, none⟩ (.int .u64 0)).setCell ⟨w.heap.size, 1, none⟩ (.int .u64 0)).cell? ⟨w.heap.size, 0, none⟩ = some (.int .u64 0) ∧ ((w1.setCell ⟨w.heap.size, 0, none⟩ (.int .u64 0)).setCell ⟨w.heap.size, 1, none⟩ (.int .u64 0)).cell? ⟨w.heap.size, 1, none⟩ = some (.int .u64 0)) ∧ Below w.heap.size w ((w1.setCell ⟨w.heap.size, 0, none⟩ (.int .u64 0)).setCell ⟨w.heap.size, 1, none⟩ (.int .u64 0)) by
    have e3 := setCell_head (setCell_head hh1 0 (.int .u64 0)) 1 (.int .u64 0)
    exact ⟨⟨cell_in e3 rfl, cell_in e3 rfl⟩, (hb1.setCell (Nat.le_refl _) _).setCell (Nat.le_refl _) _⟩)
  have HW := Lib.hid hw1
  clear h hw1 hb1 hh1
  go_enter Tryd.func23, Tryd.ntmps23
  go_wp2_with fail
  rw [← HW.out]
  refine HT.out.mono ?_
  rintro e w' ⟨rfl, hww⟩
  rw [hww]
  clear hww w'
  go_wp2_with fail
  exact bodyPost_ret (v := .tuple #[.agg #[.int .u64 0, .int .u64 0], .bool false]) (by have h := HE.out.1; simp [results, Tryd.results23, go_sem, h.1, h.2]) rfl ⟨rfl, HE.out.2⟩
set_option maxHeartbeats 1600000 in
set_option maxRecDepth 100000 in
theorem last_no {w : World} {v : Value} (h : Gone w v) : Calls Tryd.prog 24 #[v] w fun e w' => e = .returned (.agg #[.int .u64 0, .int .u64 0]) ∧ Below w.heap.size w w' := by
  obtain ⟨w1, hw1⟩ : ∃ w1, w1 = w.alloc (.cells #[.int .u64 0, .int .u64 0] 24) := ⟨_, rfl⟩
  have hb1 : Below w.heap.size w w1 := by rw [hw1]; exact (Below.refl _ _).alloc (Nat.le_refl _) _
  have hh1 : w1.heap[w.heap.size]? = some (.cells #[.int .u64 0, .int .u64 0] 24 (0, 0)) := by rw [hw1]; exact heap_new _ _
  have HT := Lib.hid (there_no (h.below hb1))
  have g0 := cell_in hh1 (i := 0) rfl
  have g1 := frozen_in hh1 0
  have k1 := cell_in (setCell_head hh1 0 (.int .u64 0)) (i := 1) rfl
  have k2 := frozen_in (setCell_head hh1 0 (.int .u64 0)) 1
  have HE := Lib.hid (show (((w1.setCell ⟨w.heap.size, 0, none⟩ (.int .u64 0)).setCell ⟨w.heap.size, 1, none⟩ (.int .u64 0)).cell? ⟨w.heap.size, 0, none⟩ = some (.int .u64 0) ∧ ((w1.setCell ⟨w.heap.size, 0, none⟩ (.int .u64 0)).setCell ⟨w.heap.size, 1, none⟩ (.int .u64 0)).cell? ⟨w.heap.size, 1, none⟩ = some (.int .u64 0)) ∧ Below w.heap.size w ((w1.setCell ⟨w.heap.size, 0, none⟩ (.int .u64 0)).setCell ⟨w.heap.size, 1, none⟩ (.int .u64 0)) by
    have e3 := setCell_head (setCell_head hh1 0 (.int .u64 0)) 1 (.int .u64 0)
    exact ⟨⟨cell_in e3 rfl, cell_in e3 rfl⟩, (hb1.setCell (Nat.le_refl _) _).setCell (Nat.le_refl _) _⟩)
  have HW := Lib.hid hw1
  clear h hw1 hb1 hh1
  go_enter Tryd.func24, Tryd.ntmps24
  go_wp2_with fail
  rw [← HW.out]
  refine HT.out.mono ?_
  rintro e w' ⟨rfl, hww⟩
  rw [hww]
  clear hww w'
  go_wp2_with fail
  exact bodyPost_ret (v := .agg #[.int .u64 0, .int .u64 0]) (by have h := HE.out.1; simp [results, Tryd.results24, go_sem, h.1, h.2]) rfl ⟨rfl, HE.out.2⟩
set_option maxHeartbeats 1600000 in
set_option maxRecDepth 100000 in
theorem setLast_no {w : World} {v : Value} (h : Gone w v) (x y : Int) : Calls Tryd.prog 33 #[v, .agg #[.int .u64 x, .int .u64 y]] w fun e w' => e = .returned (.int .i64 2) ∧ Below w.heap.size w w' := by
  obtain ⟨w1, hw1⟩ : ∃ w1, w1 = w.alloc (.cells #[.int .u64 x, .int .u64 y] 24) := ⟨_, rfl⟩
  have hb1 : Below w.heap.size w w1 := by rw [hw1]; exact (Below.refl _ _).alloc (Nat.le_refl _) _
  have HT := Lib.hid (there_no (h.below hb1))
  have HW := Lib.hid hw1
  have HB := Lib.hid hb1
  clear h hw1 hb1
  go_enter Tryd.func33, Tryd.ntmps33
  go_wp2_with fail
  rw [← HW.out]
  refine HT.out.mono ?_
  rintro e w' ⟨rfl, hww⟩
  rw [hww]
  clear hww w'
  go_wp2_with fail
  go_ret
  exact ⟨rfl, HB.out⟩
set_option maxHeartbeats 1600000 in
set_option maxRecDepth 100000 in
theorem range_no {w : World} {v : Value} (h : Gone w v) (x y x' y' m : Int) : Calls Tryd.prog 15 #[v, .agg #[.int .u64 x, .int .u64 y], .agg #[.int .u64 x', .int .u64 y'], .int .i64 m] w fun e w' => e = .returned (.slice none 0 0) ∧ Below w.heap.size w w' := by
  obtain ⟨w1, hw1⟩ : ∃ w1, w1 = (((w.alloc (.cells #[.int .u64 x, .int .u64 y] 24)).alloc (.cells #[.int .u64 x', .int .u64 y'] 24)).alloc (.cells #[.int .i64 m] 3)).alloc (.cells #[.slice none 0 0] 34) := ⟨_, rfl⟩
  have hb1 : Below w.heap.size w w1 := by rw [hw1]; exact ((((Below.refl _ _).alloc (Nat.le_refl _) _).alloc (by simp) _).alloc (by simp; omega) _).alloc (by simp; omega) _
  have HT := Lib.hid (there_no (h.below hb1))
  have HW := Lib.hid hw1
  have HB := Lib.hid hb1
  clear h hw1 hb1
  refine callsIn_wide.1 (callsIn_of_wp_marks (n := 3) Tryd.func15 rfl trivial ?_ rfl)
  refine wpIn_wide.2 ?_
  simp only [Tryd.ntmps15, List.size_toArray, List.length_cons, List.length_nil, Nat.reduceAdd, Nat.reduceSub, Array.replicate_succ, Array.replicate_zero, List.push_toArray, List.append_toArray, List.nil_append, List.cons_append]
  go_wp2_with fail
  rw [← HW.out]
  refine HT.out.mono ?_
  rintro e w' ⟨rfl, hww⟩
  rw [hww]
  clear hww w'
  go_wp2_with fail
  exact ⟨_, results_tmp rfl _ _ _, rfl, HB.out⟩
set_option maxHeartbeats 1600000 in
set_option maxRecDepth 100000 in
theorem delete_no {w : World} {v : Value} (h : Gone w v) (x y : Int) : Calls Tryd.prog 32 #[v, .agg #[.int .u64 x, .int .u64 y]] w fun e w' => e = .returned (.bool false) ∧ Below w.heap.size w w' := by
  obtain ⟨w1, hw1⟩ : ∃ w1, w1 = w.alloc (.cells #[.int .u64 x, .int .u64 y] 24) := ⟨_, rfl⟩
  have hb1 : Below w.heap.size w w1 := by rw [hw1]; exact (Below.refl _ _).alloc (Nat.le_refl _) _
  have HT := Lib.hid (there_no ((h.below hb1).below (belowN (Below.refl w1.heap.size w1) 1)))
  have HW := Lib.hid hw1
  have HB := Lib.hid (belowN hb1 1)
  clear h hw1 hb1
  go_enter Tryd.func32, Tryd.ntmps32
  go_wp2_with fail
  rw [← HW.out]
  refine wp_region_text ⟨[1, 8], [9, 10], 8⟩ (fun _ => True) (by kernel_rfl) (by kernel_rfl) trivial ?_
  refine wpC_seg false (trivial) 1 0 _ _ (by rfl) (by rfl) ?_
  simp only [List.take_succ_cons, List.take_zero, List.drop_succ_cons, List.drop_zero, Bool.false_eq_true, if_false, Nat.zero_add, Nat.reduceAdd]
  repeat (go_big_quiet_step (fail))
  refine wpQuiet_nil ?_
  refine wpC_loud (by rfl) (by rfl) fun K hK => ?_
  go_wp2_with fail
  refine HT.out.mono ?_
  rintro e w2 ⟨rfl, hww⟩
  rw [hww]
  refine hK _ _ (fun _ => trivial) ?_
  clear hK hww
  refine wpC_seg false (trivial) 6 2 _ _ (by rfl) (by rfl) ?_
  simp only [List.take_succ_cons, List.take_zero, List.drop_succ_cons, List.drop_zero, Bool.false_eq_true, if_false, Nat.zero_add, Nat.reduceAdd]
  repeat (go_big_quiet_step (fail))
  refine wpQuiet_nil ?_
  refine wpC_skip (by rfl) (by rfl) (fun h => absurd h (by decide)) ?_
  simp only [Act.put, List.setIfInBounds_toArray, List.set_cons_succ, List.set_cons_zero]
  refine wpC_segD 2 9 _ _ (by rfl) (by rfl) ?_
  simp only [List.take_succ_cons, List.take_zero, List.drop_succ_cons, List.drop_zero, if_true, Nat.zero_add, Nat.reduceAdd]
  repeat (go_big_quiet_step (fail))
  refine wpQuiet_nil ?_
  refine wpC_nil ?_
  go_wp2_with fail
  go_ret
  exact ⟨rfl, HB.out⟩
set_option maxHeartbeats 1600000 in
set_option maxRecDepth 100000 in
theorem trim_no {w : World} {v : Value} (h : Gone w v) (x : Int) : Calls Tryd.prog 34 #[v, .int .i64 x] w fun e w' => e = .returned (.int .i64 0) ∧ w' = w := by
  have HT := Lib.hid (len_no h)
  clear h
  rcases (show x < 0 ∨ 0 ≤ x by omega) with h0 | h0
  · have e1 : decide (x < 0) = true := decide_eq_true h0
    go_enter Tryd.func34, Tryd.ntmps34
    go_wp2_with fail
    go_ret
    exact ⟨rfl, rfl⟩
  · have e1 : decide (x < 0) = false := decide_eq_false (by omega)
    have e2 : decide (0 ≤ x) = true := decide_eq_true h0
    go_enter Tryd.func34, Tryd.ntmps34
    go_wp2_with fail
    refine HT.out.mono ?_
    rintro e w' ⟨rfl, rfl⟩
    go_wp2_with fail
    go_ret
    exact ⟨rfl, rfl⟩
set_option maxHeartbeats 1600000 in
set_option maxRecDepth 100000 in
theorem charge_no {w : World} {v : Value} (h : Gone w v) : Calls Tryd.prog 31 #[v] w fun e w' => e = .returned (.int .i64 0) ∧ Below w.heap.size w w' := by
  obtain ⟨w1, hw1⟩ : ∃ w1, w1 = w.alloc (.cells #[.int .i64 0] 2) := ⟨_, rfl⟩
  have hb1 : Below w.heap.size w w1 := by rw [hw1]; exact (Below.refl _ _).alloc (Nat.le_refl _) _
  have HT := Lib.hid (there_no (h.below hb1))
  have HW := Lib.hid hw1
  have HB := Lib.hid hb1
  clear h hw1 hb1
  refine callsIn_wide.1 (callsIn_of_wp_marks (n := 3) Tryd.func31 rfl trivial ?_ rfl)
  refine wpIn_wide.2 ?_
  simp only [Tryd.ntmps31, List.size_toArray, List.length_cons, List.length_nil, Nat.reduceAdd, Nat.reduceSub, Array.replicate_succ, Array.replicate_zero, List.push_toArray, List.append_toArray, List.nil_append, List.cons_append]
  go_wp2_with fail
  rw [← HW.out]
  refine HT.out.mono ?_
  rintro e w' ⟨rfl, hww⟩
  rw [hww]
  clear hww w'
  go_wp2_with fail
  exact ⟨_, results_tmp rfl _ _ _, rfl, HB.out⟩
/-! The document's stream, nil. -/
set_option maxHeartbeats 1600000 in
set_option maxRecDepth 100000 in
theorem refLen_no (w : World) : Calls Tryd.prog 49 #[.pointer none] w fun e w' => e = .returned (.int .i64 0) ∧ w' = w := by
  go_enter Tryd.func49, Tryd.ntmps49
  go_wp2_with fail
  go_ret
  exact ⟨rfl, rfl⟩
set_option maxHeartbeats 1600000 in
set_option maxRecDepth 100000 in
theorem refAdd_no (w : World) (x y : Int) (a : Option Addr) (n c : Nat) : Calls Tryd.prog 42 #[.pointer none, .agg #[.int .u64 x, .int .u64 y, .slice a n c]] w fun e w' => e = .returned (.int .i64 2) ∧ Below w.heap.size w w' := by
  go_enter Tryd.func42, Tryd.ntmps42
  go_wp2_with fail
  go_ret
  exact ⟨rfl, (Below.refl _ _).alloc (Nat.le_refl _) _⟩
set_option maxHeartbeats 1600000 in
set_option maxRecDepth 100000 in
theorem refDelete_no (w : World) (x y : Int) : Calls Tryd.prog 45 #[.pointer none, .agg #[.int .u64 x, .int .u64 y]] w fun e w' => e = .returned (.bool false) ∧ Below w.heap.size w w' := by
  go_enter Tryd.func45, Tryd.ntmps45
  go_wp2_with fail
  go_ret
  exact ⟨rfl, (Below.refl _ _).alloc (Nat.le_refl _) _⟩
set_option maxHeartbeats 1600000 in
set_option maxRecDepth 100000 in
theorem refSetLast_no (w : World) (x y : Int) : Calls Tryd.prog 46 #[.pointer none, .agg #[.int .u64 x, .int .u64 y]] w fun e w' => e = .returned (.int .i64 2) ∧ Below w.heap.size w w' := by
  go_enter Tryd.func46, Tryd.ntmps46
  go_wp2_with fail
  go_ret
  exact ⟨rfl, (Below.refl _ _).alloc (Nat.le_refl _) _⟩
set_option maxHeartbeats 1600000 in
set_option maxRecDepth 100000 in
theorem refTrim_no (w : World) (x : Int) : Calls Tryd.prog 48 #[.pointer none, .int .i64 x] w fun e w' => e = .returned (.int .i64 0) ∧ w' = w := by
  have HT := Lib.hid (refLen_no w)
  rcases (show x < 0 ∨ 0 ≤ x by omega) with h0 | h0
  · have e1 : decide (x < 0) = true := decide_eq_true h0
    go_enter Tryd.func48, Tryd.ntmps48
    go_wp2_with fail
    go_ret
    exact ⟨rfl, rfl⟩
  · have e1 : decide (x < 0) = false := decide_eq_false (by omega)
    have e2 : decide (0 ≤ x) = true := decide_eq_true h0
    go_enter Tryd.func48, Tryd.ntmps48
    go_wp2_with fail
    refine HT.out.mono ?_
    rintro e w' ⟨rfl, rfl⟩
    go_wp2_with fail
    go_ret
    exact ⟨rfl, rfl⟩
set_option maxHeartbeats 1600000 in
set_option maxRecDepth 100000 in
theorem refRange_no (w : World) (x y x' y' m : Int) : Calls Tryd.prog 47 #[.pointer none, .agg #[.int .u64 x, .int .u64 y], .agg #[.int .u64 x', .int .u64 y'], .int .i64 m] w fun e w' => e = .returned (.slice none 0 0) ∧ Below w.heap.size w w' := by
  have HT := Lib.hid refLen_no
  obtain ⟨w1, hw1⟩ : ∃ w1, w1 = (w.alloc (.cells #[.int .u64 x, .int .u64 y] 24)).alloc (.cells #[.int .u64 x', .int .u64 y'] 24) := ⟨_, rfl⟩
  have hb1 : Below w.heap.size w w1 := by rw [hw1]; exact ((Below.refl _ _).alloc (Nat.le_refl _) _).alloc (by simp) _
  have HW := Lib.hid hw1
  have HB := Lib.hid hb1
  clear hw1 hb1
  go_enter Tryd.func47, Tryd.ntmps47
  go_wp2_with fail
  rw [← HW.out]
  go_loop [9, 10] (fun o i => o = .slice none 0 0 ∧ i = .int .i64 0) (fun _ _ => 0)
  case atStart => exact ⟨rfl, rfl⟩
  case round =>
    obtain ⟨rfl, rfl⟩ := hrel
    go_wp2_with fail
    refine (HT.out _).mono ?_
    rintro e w' ⟨rfl, hww⟩
    rw [hww]
    clear hww w'
    go_wp2_with fail
    go_ret
    exact ⟨rfl, HB.out⟩
set_option maxHeartbeats 1600000 in
set_option maxRecDepth 100000 in
theorem refCharge_no (w : World) : Calls Tryd.prog 51 #[.pointer none] w fun e w' => e = .returned (.int .i64 0) ∧ w' = w := by
  have HT := Lib.hid refLen_no
  go_enter Tryd.func51, Tryd.ntmps51
  go_wp2_with fail
  go_loop [3, 4] (fun o i => o = .int .i64 0 ∧ i = .int .i64 0) (fun _ _ => 0)
  case atStart => exact ⟨rfl, rfl⟩
  case round =>
    obtain ⟨rfl, rfl⟩ := hrel
    go_wp2_with fail
    refine (HT.out _).mono ?_
    rintro e w' ⟨rfl, hww⟩
    rw [hww]
    clear hww w'
    go_wp2_with fail
    go_ret
    exact ⟨rfl, rfl⟩
set_option maxHeartbeats 1600000 in
set_option maxRecDepth 100000 in
theorem refLast_no (w : World) : Calls Tryd.prog 50 #[.pointer none] w fun e w' => e = .returned (.agg #[.int .u64 0, .int .u64 0]) ∧ Below w.heap.size w w' := by
  obtain ⟨w1, hw1⟩ : ∃ w1, w1 = w.alloc (.cells #[.int .u64 0, .int .u64 0] 24) := ⟨_, rfl⟩
  have hb1 : Below w.heap.size w w1 := by rw [hw1]; exact (Below.refl _ _).alloc (Nat.le_refl _) _
  have hh1 : w1.heap[w.heap.size]? = some (.cells #[.int .u64 0, .int .u64 0] 24 (0, 0)) := by rw [hw1]; exact heap_new _ _
  have g0 := cell_in hh1 (i := 0) rfl
  have g1 := frozen_in hh1 0
  have k1 := cell_in (setCell_head hh1 0 (.int .u64 0)) (i := 1) rfl
  have k2 := frozen_in (setCell_head hh1 0 (.int .u64 0)) 1
  have HE := Lib.hid (show (((w1.setCell ⟨w.heap.size, 0, none⟩ (.int .u64 0)).setCell ⟨w.heap.size, 1, none⟩ (.int .u64 0)).cell? ⟨w.heap.size, 0, none⟩ = some (.int .u64 0) ∧ ((w1.setCell ⟨w.heap.size, 0, none⟩ (.int .u64 0)).setCell ⟨w.heap.size, 1, none⟩ (.int .u64 0)).cell? ⟨w.heap.size, 1, none⟩ = some (.int .u64 0)) ∧ Below w.heap.size w ((w1.setCell ⟨w.heap.size, 0, none⟩ (.int .u64 0)).setCell ⟨w.heap.size, 1, none⟩ (.int .u64 0)) by
    have e3 := setCell_head (setCell_head hh1 0 (.int .u64 0)) 1 (.int .u64 0)
    exact ⟨⟨cell_in e3 rfl, cell_in e3 rfl⟩, (hb1.setCell (Nat.le_refl _) _).setCell (Nat.le_refl _) _⟩)
  have HW := Lib.hid hw1
  clear hw1 hb1 hh1
  go_enter Tryd.func50, Tryd.ntmps50
  go_upto_region 1 with (fail)
  rw [← HW.out]
  go_wp2_with fail
  exact bodyPost_ret (v := .agg #[.int .u64 0, .int .u64 0]) (by have h := HE.out.1; simp [results, Tryd.results50, go_sem, h.1, h.2]) rfl ⟨rfl, HE.out.2⟩
set_option maxHeartbeats 1600000 in
set_option maxRecDepth 100000 in
theorem refNext_no (w : World) (x : Int) : Calls Tryd.prog 44 #[.pointer none, .int .i64 x] w fun e w' => e = .returned (.tuple #[.agg #[.int .u64 0, .int .u64 0], .bool false]) ∧ Below w.heap.size w w' := by
  obtain ⟨w1, hw1⟩ : ∃ w1, w1 = w.alloc (.cells #[.int .u64 0, .int .u64 0] 24) := ⟨_, rfl⟩
  have hb1 : Below w.heap.size w w1 := by rw [hw1]; exact (Below.refl _ _).alloc (Nat.le_refl _) _
  have hh1 : w1.heap[w.heap.size]? = some (.cells #[.int .u64 0, .int .u64 0] 24 (0, 0)) := by rw [hw1]; exact heap_new _ _
  have g0 := cell_in hh1 (i := 0) rfl
  have g1 := frozen_in hh1 0
  have k1 := cell_in (setCell_head hh1 0 (.int .u64 0)) (i := 1) rfl
  have k2 := frozen_in (setCell_head hh1 0 (.int .u64 0)) 1
  have HE := Lib.hid (show (((w1.setCell ⟨w.heap.size, 0, none⟩ (.int .u64 0)).setCell ⟨w.heap.size, 1, none⟩ (.int .u64 0)).cell? ⟨w.heap.size, 0, none⟩ = some (.int .u64 0) ∧ ((w1.setCell ⟨w.heap.size, 0, none⟩ (.int .u64 0)).setCell ⟨w.heap.size, 1, none⟩ (.int .u64 0)).cell? ⟨w.heap.size, 1, none⟩ = some (.int .u64 0)) ∧ Below w.heap.size w ((w1.setCell ⟨w.heap.size, 0, none⟩ (.int .u64 0)).setCell ⟨w.heap.size, 1, none⟩ (.int .u64 0)) by
    have e3 := setCell_head (setCell_head hh1 0 (.int .u64 0)) 1 (.int .u64 0)
    exact ⟨⟨cell_in e3 rfl, cell_in e3 rfl⟩, (hb1.setCell (Nat.le_refl _) _).setCell (Nat.le_refl _) _⟩)
  have HW := Lib.hid hw1
  clear hw1 hb1 hh1
  go_enter Tryd.func44, Tryd.ntmps44
  go_upto_region 1 with (fail)
  rw [← HW.out]
  go_wp2_with fail
  exact bodyPost_ret (v := .tuple #[.agg #[.int .u64 0, .int .u64 0], .bool false]) (by have h := HE.out.1; simp [results, Tryd.results44, go_sem, h.1, h.2]) rfl ⟨rfl, HE.out.2⟩
end Go.Proofs.YtbjpfnafhhbmaaaDoor.Sad

/- TwinPairs, TwinEntry, LeftPairs, LeftEntry: copies with a mark behind. -/
namespace Go.Proofs.YtbjpfnafhhbmaaaDoor.Sad
open Go.Proofs.YtbjpfnafhhbmaaaDoor
set_option linter.unusedVariables false
set_option linter.unusedSimpArgs false
open Go.RowKit RT Go.Shelf
def spareS : ByteArray := ⟨#[115, 112, 97, 114, 101]⟩
def spareP : PairT := (spareS, ⟨#[]⟩)
/-- v is a copy of the row L, in a block from B on, with the mark behind it. -/
def TwinOf (w : World) (B : Nat) (v : Value) (L : List PairT) : Prop :=
  ∃ g cap cur, v = .slice (some ⟨g, 0, none⟩) L.length cap ∧ B ≤ g ∧ RowAt w g 59 cur ∧ cur.size = cap * 2 ∧ L.length + 1 ≤ cap ∧ cap ≤ maxLen ∧ cur.toList.take ((L.length + 1) * 2) = (L ++ [spareP]).flatMap pairC
theorem TwinOf.slice {w : World} {B : Nat} {v : Value} {L : List PairT} (h : TwinOf w B v L) : ∃ g cap, v = .slice (some ⟨g, 0, none⟩) L.length cap ∧ L.length + 1 ≤ cap ∧ cap ≤ maxLen ∧ B ≤ g ∧ g < w.heap.size ∧ SliceN w B 59 2 (.slice (some ⟨g, 0, none⟩) (L.length + 1) cap) (L.length + 1) ((L ++ [spareP]).flatMap pairC) := by
  obtain ⟨g, cap, cur, h1, h2, h3, h4, h5, h6, h7⟩ := h
  exact ⟨g, cap, h1, h5, h6, h2, h3.lt, ⟨by rw [flatP_len]; simp, .inr ⟨g, cap, cur, rfl, h2, h3, h4, h5, h6, h7⟩⟩⟩
theorem TwinOf.row {w : World} {B : Nat} {v : Value} {L : List PairT} (h : TwinOf w B v L) : ∃ g cap, v = .slice (some ⟨g, 0, none⟩) L.length cap ∧ B ≤ g ∧ g < w.heap.size ∧ PairRow w (some ⟨g, 0, none⟩) L.length cap L ∧ PairRow w (some ⟨g, 0, none⟩) (L.length + 1) cap (L ++ [spareP]) ∧ L.length + 1 ≤ cap ∧ cap ≤ maxLen := by
  obtain ⟨g, cap, h1, h2, h3, h4, h5, h6⟩ := h.slice
  have hr := PairRow.of_slice h6 (by simp)
  refine ⟨g, cap, h1, h4, h5, ⟨rfl, by omega, hr.2.2.imp (fun h => by omega) ?_⟩, hr, h2, h3⟩
  rintro ⟨b, o, e, hc⟩
  refine ⟨b, o, e, fun i hi => ?_⟩
  have := hc i (by omega)
  have e1 : (L ++ [spareP]).getD i e0 = L.getD i e0 := by
    simp only [List.getD]
    rw [List.getElem?_append_left hi]
  rw [e1] at this
  exact this
theorem TwinOf.chg {w w' : World} {B : Nat} {v : Value} {L : List PairT} (h : TwinOf w B v L) {S : Nat → Prop} (hc : Chg S w w') (hs : ∀ k, vblock v = some k → ¬ S k) : TwinOf w' B v L := by
  obtain ⟨g, cap, cur, rfl, h2, h3, h4⟩ := h
  exact ⟨g, cap, cur, rfl, h2, h3.keep hc (hs g rfl), h4⟩
set_option maxHeartbeats 3200000 in
set_option maxRecDepth 100000 in
theorem twinPairs {w : World} {a : Option Addr} {n c : Nat} {L : List PairT} (h : PairRow w a n c L) (hn : n ≤ 4000000) :
    Calls Tryd.prog 65 #[.slice a n c] w fun e w' => ∃ v, e = .returned v ∧ TwinOf w' w.heap.size v L ∧ Below w.heap.size w w' := by
  obtain ⟨i0, g1, g2, g3, g4⟩ := info_parts info_pair
  obtain ⟨cur0, hcur0⟩ : ∃ cur0, madeCells (Value.agg #[.string ⟨#[]⟩, .string ⟨#[]⟩]).cells ((n + 1) * 2) = cur0 := ⟨_, rfl⟩
  have hmk : (Instr.makeSlice 37 (.int .i64 0) (.int .i64 ((n : Int) + 1))).run Tryd.prog w = .ok (.slice (some ⟨w.heap.size, 0, none⟩) 0 (n + 1)) (w.alloc (.cells cur0 59)) := by
    have h := run_make (P := Tryd.prog) w 37 59 i0 _ Tryd.underlying37 g1 g2 .i64 .i64 0 ((n : Int) + 1) (by omega) (by omega) (by rw [g4]; omega) (by omega)
    rw [h, g3, ← hcur0, show ((n : Int) + 1).toNat = n + 1 by omega]
    rfl
  have hsz0 : cur0.size = (n + 1) * 2 := by rw [← hcur0]; simp [madeCells, Value.cells]
  obtain ⟨w1, hw1⟩ : ∃ w1, w1 = w.alloc (.cells cur0 59) := ⟨_, rfl⟩
  have hb1 : Below w.heap.size w w1 := by rw [hw1]; exact (Below.refl _ _).alloc (Nat.le_refl _) _
  have hh1 : w1.heap[w.heap.size]? = some (.cells cur0 59 (0, 0)) := by rw [hw1]; exact heap_new _ _
  have hs1 : SliceN w1 w.heap.size 59 2 (.slice (some ⟨w.heap.size, 0, none⟩) 0 (n + 1)) 0 [] := ⟨rfl, .inr ⟨w.heap.size, n + 1, cur0, rfl, Nat.le_refl _, RowAt.of hh1, hsz0, by omega, by unfold maxLen; omega, by simp⟩⟩
  have HR := Lib.hid h
  have HS1 := Lib.hid (show ∃ v, v = Value.slice (some ⟨w.heap.size, 0, none⟩) 0 (n + 1) ∧ SliceN w1 w.heap.size 59 2 v 0 ((L.take 0).flatMap pairC) ∧ Below w.heap.size w w1 from ⟨_, rfl, hs1, hb1⟩)
  have HW := Lib.hid hw1
  rw [← hw1] at hmk
  have HM := Lib.hid hmk
  have HG := Lib.hid (And.intro g1 (And.intro g2 (And.intro g3 g4)))
  have e1 : IntKind.i64.wrap ((n : Int) + 1) = (n : Int) + 1 := IntWalk.i64_in _ (by omega)
  clear h hmk hw1 hb1 hh1 hs1 hsz0 hcur0 g1 g2 g3 g4
  go_enter Tryd.func65, Tryd.ntmps65
  go_upto_region 1 with (fail)
  go_wp2_with (rw [HM.out])
  go_loopw [3, 4] (fun v i wr => ∃ k : Nat, k ≤ n ∧ i = .int .i64 k ∧ Hid (SliceN wr w.heap.size 59 2 v k ((L.take k).flatMap pairC) ∧ Below w.heap.size w wr)) (fun _ i _ => n - (intOf i).toNat)
  case atStart =>
    obtain ⟨v, rfl, hs, hb⟩ := HS1.out
    exact ⟨0, Nat.zero_le _, rfl, Lib.hid ⟨hs, hb⟩⟩
  case round =>
    obtain ⟨k, hk, rfl, hI⟩ := hrel
    obtain ⟨va, vc, rfl, hvc, hvm⟩ := hI.out.1.form
    by_cases hlt : k < n
    · have hb := hI.out.2
      obtain ⟨b, o, rfl, _, d0, d1⟩ := (HR.out.below hb).cells hlt
      obtain ⟨x, hx⟩ : ∃ x, L.getD k e0 = x := ⟨_, rfl⟩
      rw [hx] at d0 d1
      have hkL : k < L.length := by rw [HR.out.1]; exact hlt
      have hx2 : (L.take (k + 1)).flatMap pairC = (L.take k).flatMap pairC ++ pairC x := by
        rw [List.take_succ_eq_append_getElem hkL, List.flatMap_append, ← hx]
        simp [List.getD, hkL]
      obtain ⟨x1, x2⟩ := x
      obtain ⟨g1, g2, g3, g4⟩ := HG.out
      obtain ⟨v', W2, hrn, s2, c2, hv2⟩ := run_append_oneN (P := Tryd.prog) (t := 37) (ty := 37) (z := 2) (w := wr) Tryd.underlying37 g1 g2 g3 g4 rfl hI.out.1 hb.size (pairC (x1, x2)) rfl (by simp [pairC, Value.oneCell']) (by unfold maxLen; omega) (by omega)
      rw [← hx2] at s2
      have HA := Lib.hid hrn
      have HN := Lib.hid (And.intro s2 (belowChg hb c2 hb.size fun j hj _ => (hI.out.1.block_lt hj).1))
      obtain ⟨va', vc', rfl, _, _⟩ := s2.form
      clear hb hx hkL hx2 g1 g2 g3 g4 hrn s2 c2 hv2 hI
      dsimp only at d0 d1
      go_wp2_with (at_builtin; refine wpList_append_run rfl rfl HA.out ?_)
      go_roundw
      case rel => exact ⟨k + 1, by omega, by go_num, HN⟩
      case measure => simp [intOf]; omega
    · obtain rfl : n = k := by omega
      have hb := hI.out.2
      have hl := HR.out.1
      obtain ⟨g1, g2, g3, g4⟩ := HG.out
      obtain ⟨v', W2, hrn, s2, c2, hv2⟩ := run_append_oneN (P := Tryd.prog) (t := 37) (ty := 37) (z := 2) (w := wr) Tryd.underlying37 g1 g2 g3 g4 rfl hI.out.1 hb.size (pairC spareP) rfl (by simp [pairC, Value.oneCell']) (by unfold maxLen; omega) (by omega)
      have HA := Lib.hid hrn
      have hbl := belowChg hb c2 hb.size fun j hj _ => (hI.out.1.block_lt hj).1
      obtain ⟨g, cap, cur, rfl, q1, q2, q3, q4, q5, q6⟩ := s2.2.resolve_left (by omega)
      have HN := Lib.hid (show TwinOf W2 w.heap.size (.slice (some ⟨g, 0, none⟩) n cap) L ∧ Below w.heap.size w W2 from ⟨⟨g, cap, cur, by rw [hl], q1, q2, q3, by omega, q5, by
        rw [hl, q6, List.take_of_length_le (by omega), List.flatMap_append]; simp⟩, hbl⟩)
      have hcap : n ≤ cap := by omega
      clear hb hl hrn s2 c2 hv2 hI g1 g2 g3 g4 q1 q2 q3 q4 q5 q6 hbl
      go_wp2_with (at_builtin; refine wpList_append_run rfl rfl HA.out ?_)
      go_ret
      exact ⟨_, rfl, HN.out⟩
set_option maxHeartbeats 3200000 in
set_option maxRecDepth 100000 in
theorem leftPairs {w : World} {B : Nat} {v : Value} {a' : Option Addr} {n c' : Nat} {L : List PairT} (h : TwinOf w B v L) (h' : PairRow w a' n c' L) (hn : n ≤ 4000000) :
    Calls Tryd.prog 67 #[v, .slice a' n c'] w fun e w' => e = .returned (.bool true) ∧ Below w.heap.size w w' := by
  obtain ⟨g, cap, rfl, hB, hg, hr, hr2, hc1, hc2⟩ := h.row
  have hl : L.length = n := h'.1
  rw [hl] at hr hr2 hc1 ⊢
  have HR := Lib.hid (And.intro hr (And.intro h' hr2))
  have HL := Lib.hid hl
  clear h h' hl hr hr2 hB
  have e1 : ((n : Int) == (n : Int)) = true := by simp
  have e2 : decide ((cap : Int) ≤ (n : Int)) = false := by simp; omega
  have e2' : decide (cap ≤ n) = false := by simp; omega
  have e3 : IntKind.i64.wrap ((n : Int) + 1) = (n : Int) + 1 := IntWalk.i64_in _ (by omega)
  go_enter Tryd.func67, Tryd.ntmps67
  go_wp2_with fail
  go_loopw [5] (fun i wr => ∃ k : Nat, k ≤ n ∧ i = .int .i64 k ∧ Hid (Below w.heap.size w wr)) (fun i _ => n - (intOf i).toNat)
  case atStart => exact ⟨0, Nat.zero_le _, rfl, Lib.hid (Below.refl _ _)⟩
  case round =>
    obtain ⟨k, hk, rfl, hI⟩ := hrel
    by_cases hlt : k < n
    · have hC := fun w' (hb : Below w.heap.size w w') => And.intro (((HR.out.1.below hb)).cells hlt) ((HR.out.2.1.below hb).cells hlt)
      obtain ⟨_, ⟨b', o', rfl, _⟩⟩ := hC wr hI.out
      obtain ⟨f, hf⟩ : ∃ f, L.getD k e0 = f := ⟨_, rfl⟩
      have hC2 : ∀ w', Below w.heap.size w w' → (w'.cell? ⟨g, k * 2, none⟩ = some (.string f.1) ∧ w'.cell? ⟨g, k * 2 + 1, none⟩ = some (.string f.2)) ∧ w'.cell? ⟨b', o' + k * 2, none⟩ = some (.string f.1) ∧ w'.cell? ⟨b', o' + k * 2 + 1, none⟩ = some (.string f.2) := fun w' hb => by
        obtain ⟨⟨b1, o1, e1, _, d0, d1⟩, ⟨b2, o2, e2, _, d2, d3⟩⟩ := hC w' hb
        cases e1
        cases e2
        rw [hf] at d0 d1 d2 d3
        rw [Nat.zero_add] at d0 d1
        exact ⟨⟨d0, d1⟩, d2, d3⟩
      obtain ⟨f1, f2⟩ := f
      have c0 := hC2 wr.drew (belowN hI.out 1)
      obtain ⟨X1, fw, hX1, hfw, hF⟩ := classOf (fun w' => (w'.cell? ⟨g, k * 2, none⟩ = some (.string f1) ∧ w'.cell? ⟨g, k * 2 + 1, none⟩ = some (.string f2)) ∧ w'.cell? ⟨b', o' + k * 2, none⟩ = some (.string f1) ∧ w'.cell? ⟨b', o' + k * 2 + 1, none⟩ = some (.string f2)) (w := wr.drew) c0
      have k1 := fun x => (hfw x).1.1
      have k2 := fun x => (hfw x).1.2
      have k3 := fun x => (hfw x).2.1
      have k4 := fun x => (hfw x).2.2
      have HFa := Lib.hid (hF wr.drew c0)
      have hbd1 : k < n := hlt
      clear hF hfw c0 hC hC2 hf
      go_upto_region 6 with (fail)
      refine wp_region_text ⟨[], [], 9⟩ (fun w' => ∃ x : X1, w' = fw x) (by kernel_rfl) (by kernel_rfl) HFa.out ?_
      refine wpC_seg false (HFa.out) 9 0 _ _ (by rfl) (by rfl) ?_
      simp only [List.take_succ_cons, List.take_zero, List.drop_succ_cons, List.drop_zero, Bool.false_eq_true, if_false, Nat.zero_add, Nat.reduceAdd]
      repeat (go_big_quiet_step (fail))
      refine wpQuiet_nil ?_
      refine wpC_nil ?_
      go_wp2_with fail
      go_roundw
      case rel => exact ⟨k + 1, by omega, by go_num, Lib.hid (belowN hI.out 1)⟩
      case measure => simp [intOf]; omega
    · obtain rfl : n = k := by omega
      obtain ⟨b1, o1, e1', _, d0, d1⟩ := (HR.out.2.2.below hI.out).cells (i := n) (by omega)
      cases e1'
      have hxx : (L ++ [spareP]).getD n e0 = spareP := by
        have := HL.out
        simp [List.getD, ← this]
      rw [hxx, Nat.zero_add] at d0 d1
      simp only [spareP, spareS] at d0 d1
      obtain ⟨W2, hW2⟩ : ∃ W2, W2 = wr.alloc (.cells #[.string spareS, .string ⟨#[]⟩] 59) := ⟨_, rfl⟩
      have HB := Lib.hid hI.out
      clear hI hxx
      go_wp2_with fail
      go_ret
      exact ⟨rfl, HB.out.alloc HB.out.size _⟩
set_option maxHeartbeats 3200000 in
set_option maxRecDepth 100000 in
theorem twinEntry {w : World} {x y : Nat} {a : Option Addr} {n c : Nat} {L : List PairT} (h : PairRow w a n c L) (hn : n ≤ 4000000) :
    Calls Tryd.prog 41 #[.agg #[.int .u64 x, .int .u64 y, .slice a n c]] w fun e w' => ∃ v, e = .returned (.agg #[.int .u64 x, .int .u64 y, v]) ∧ TwinOf w' w.heap.size v L ∧ Below w.heap.size w w' := by
  obtain ⟨w1, hw1⟩ : ∃ w1, w1 = (w.alloc (.cells #[.int .u64 x, .int .u64 y, .slice a n c] 39)).alloc (.cells #[.int .u64 0, .int .u64 0, .slice none 0 0] 39) := ⟨_, rfl⟩
  have hb1 : Below w.heap.size w w1 := by rw [hw1]; exact ((Below.refl _ _).alloc (Nat.le_refl _) _).alloc (by simp) _
  have k1 : w1.heap[w.heap.size]? = some (.cells #[.int .u64 x, .int .u64 y, .slice a n c] 39 (0, 0)) := by rw [hw1]; exact heap_old (heap_new _ _) _
  have k2 : w1.heap[w.heap.size + 1]? = some (.cells #[.int .u64 0, .int .u64 0, .slice none 0 0] 39 (0, 0)) := by
    rw [hw1]
    have := heap_new (w.alloc (.cells #[.int .u64 x, .int .u64 y, .slice a n c] 39)) (.cells #[.int .u64 0, .int .u64 0, .slice none 0 0] 39)
    rw [World.size_alloc] at this
    exact this
  have hsz : w1.heap.size = w.heap.size + 2 := by rw [hw1]; simp
  have hb2 := belowN (Below.refl w1.heap.size w1) 1
  have HS := Lib.hid (twinPairs ((h.below hb1).below hb2) hn)
  have HK := Lib.hid (show ∀ w', Below w1.heap.size w1 w' → w'.heap[w.heap.size]? = some (.cells #[.int .u64 x, .int .u64 y, .slice a n c] 39 (0, 0)) ∧ w'.heap[w.heap.size + 1]? = some (.cells #[.int .u64 0, .int .u64 0, .slice none 0 0] 39 (0, 0)) from fun w' hb => ⟨(hb.block _ (heap_lt k1)).trans k1, (hb.block _ (heap_lt k2)).trans k2⟩)
  obtain ⟨X1, fw, hX1, hfw, hF⟩ := classOf (fun w' => w'.cell? ⟨w.heap.size, 0, none⟩ = some (.int .u64 x) ∧ w'.cell? ⟨w.heap.size, 1, none⟩ = some (.int .u64 y) ∧ w'.cell? ⟨w.heap.size, 2, none⟩ = some (.slice a n c)) (w := w1.drew) (by
    have := (HK.out _ hb2).1
    exact ⟨cell_in this rfl, cell_in this rfl, cell_in this rfl⟩)
  have f1 := fun x => (hfw x).1
  have f2 := fun x => (hfw x).2.1
  have f3 := fun x => (hfw x).2.2
  have HFa := Lib.hid (show ∀ w', Below w1.heap.size w1 w' → ∃ x : X1, w' = fw x from fun w' hb => by
    have := (HK.out _ hb).1
    exact hF w' ⟨cell_in this rfl, cell_in this rfl, cell_in this rfl⟩)
  have HW := Lib.hid hw1
  have HB := Lib.hid (And.intro hb1 (And.intro hsz hb2))
  clear h hw1 hb1 hb2 k1 k2 hF hfw hsz
  go_enter Tryd.func41, Tryd.ntmps41
  go_upto_region 1 with (fail)
  rw [← HW.out]
  refine wp_region_text ⟨[4, 6], [], 6⟩ (fun w' => ∃ x : X1, w' = fw x) (by kernel_rfl) (by kernel_rfl) (HFa.out _ HB.out.2.2) ?_
  refine wpC_seg false (HFa.out _ HB.out.2.2) 4 0 _ _ (by rfl) (by rfl) ?_
  simp only [List.take_succ_cons, List.take_zero, List.drop_succ_cons, List.drop_zero, Bool.false_eq_true, if_false, Nat.zero_add, Nat.reduceAdd]
  repeat (go_big_quiet_step (fail))
  refine wpQuiet_nil ?_
  refine wpC_loud (by rfl) (by rfl) fun K hK => ?_
  go_wp2_with fail
  refine HS.out.mono ?_
  rintro e w2 ⟨v, rfl, o2, b2⟩
  have hbb := HB.out.2.2.trans (b2.mono HB.out.2.2.size)
  obtain ⟨g, cp, rfl, _⟩ := o2.slice
  refine hK _ _ (fun _ => HFa.out _ hbb) ?_
  have HO := Lib.hid (And.intro o2 hbb)
  clear hK o2 b2 hbb
  refine wpC_seg false (HFa.out _ HO.out.2) 1 5 _ _ (by rfl) (by rfl) ?_
  simp only [List.take_succ_cons, List.take_zero, List.drop_succ_cons, List.drop_zero, Bool.false_eq_true, if_false, Nat.zero_add, Nat.reduceAdd]
  repeat (go_big_quiet_step (fail))
  refine wpQuiet_nil ?_
  refine wpC_loud (by rfl) (by rfl) fun K hK => ?_
  have hr2 := (HK.out w2 HO.out.2).2
  obtain ⟨sv, hsv⟩ : ∃ sv, Value.slice (some ⟨g, 0, none⟩) L.length cp = sv := ⟨_, rfl⟩
  have q0 := cell_in hr2 (i := 0) rfl
  have r0 := frozen_in hr2 0
  have q1 := cell_in (setCell_head hr2 0 (.int .u64 x)) (i := 1) rfl
  have r1 := frozen_in (setCell_head hr2 0 (.int .u64 x)) 1
  have q2 := cell_in (setCell_head (setCell_head hr2 0 (.int .u64 x)) 1 (.int .u64 y)) (i := 2) rfl
  have r2 := frozen_in (setCell_head (setCell_head hr2 0 (.int .u64 x)) 1 (.int .u64 y)) 2
  obtain ⟨w3, hw3⟩ : ∃ w3, w3 = ((w2.setCell ⟨w.heap.size + 1, 0, none⟩ (.int .u64 x)).setCell ⟨w.heap.size + 1, 1, none⟩ (.int .u64 y)).setCell ⟨w.heap.size + 1, 2, none⟩ (.slice (some ⟨g, 0, none⟩) L.length cp) := ⟨_, rfl⟩
  have hh3 : w3.heap[w.heap.size + 1]? = some (.cells #[.int .u64 x, .int .u64 y, .slice (some ⟨g, 0, none⟩) L.length cp] 39 (0, 0)) := by
    rw [hw3]; exact setCell_head (setCell_head (setCell_head hr2 0 _) 1 _) 2 _
  have hc3 : Chg (fun k => k = w.heap.size + 1) w2 w3 := by
    rw [hw3]
    exact ((Chg.setCell (fun k => k = w.heap.size + 1) _ _ _ rfl).trans (Chg.setCell (fun k => k = w.heap.size + 1) _ _ _ rfl) fun _ h _ => h).trans (Chg.setCell (fun k => k = w.heap.size + 1) _ _ _ rfl) fun _ h _ => h
  have HEnd := Lib.hid (show (w3.cell? ⟨w.heap.size + 1, 0, none⟩ = some (.int .u64 x) ∧ w3.cell? ⟨w.heap.size + 1, 1, none⟩ = some (.int .u64 y) ∧ w3.cell? ⟨w.heap.size + 1, 2, none⟩ = some (.slice (some ⟨g, 0, none⟩) L.length cp)) ∧ TwinOf w3 w.heap.size (.slice (some ⟨g, 0, none⟩) L.length cp) L ∧ Below w.heap.size w w3 from by
    have ho := HO.out.1
    obtain ⟨g', cap', cur, he, hgB, ho'⟩ := ho
    cases he
    have hsz := HB.out.2.1
    have hgB' : w.heap.size + 2 ≤ g := by simpa [hsz] using hgB
    refine ⟨⟨cell_in hh3 rfl, cell_in hh3 rfl, cell_in hh3 rfl⟩, ?_, ?_⟩
    · refine TwinOf.chg ⟨g, cp, cur, rfl, by omega, ho'⟩ hc3 fun k hk e => ?_
      cases hk
      have e' : g = w.heap.size + 1 := e
      omega
    · refine belowChg (HB.out.1.trans (HO.out.2.mono HB.out.1.size)) hc3 ?_ fun k hk _ => by omega
      exact (HB.out.1.trans (HO.out.2.mono HB.out.1.size)).size)
  have HW3 := Lib.hid hw3
  clear hw3 hh3 hc3 hr2 hsv sv
  go_wp2_with fail
  rw [← HW3.out]
  refine hK _ _ (fun h => absurd h (by decide)) ?_
  clear hK q0 r0 q1 r1 q2 r2
  refine wpC_nil ?_
  clear f1 f2 f3 hX1 HFa HS HK
  go_wp2_with fail
  exact bodyPost_ret (v := .agg #[.int .u64 x, .int .u64 y, .slice (some ⟨g, 0, none⟩) L.length cp]) (by have h := HEnd.out.1; simp [results, Tryd.results41, go_sem, h.1, h.2.1, h.2.2]) rfl ⟨_, rfl, HEnd.out.2⟩
set_option maxHeartbeats 3200000 in
set_option maxRecDepth 100000 in
theorem leftEntry {w : World} {B x y : Nat} {v : Value} {a : Option Addr} {n c : Nat} {L : List PairT} (h : TwinOf w B v L) (h' : PairRow w a n c L) (hn : n ≤ 4000000) :
    Calls Tryd.prog 43 #[.agg #[.int .u64 x, .int .u64 y, v], .agg #[.int .u64 x, .int .u64 y, .slice a n c]] w fun e w' => e = .returned (.bool true) ∧ Below w.heap.size w w' := by
  obtain ⟨w1, hw1⟩ : ∃ w1, w1 = (w.alloc (.cells #[.int .u64 x, .int .u64 y, v] 39)).alloc (.cells #[.int .u64 x, .int .u64 y, .slice a n c] 39) := ⟨_, rfl⟩
  have hb1 : Below w.heap.size w w1 := by rw [hw1]; exact ((Below.refl _ _).alloc (Nat.le_refl _) _).alloc (by simp) _
  have k1 : w1.heap[w.heap.size]? = some (.cells #[.int .u64 x, .int .u64 y, v] 39 (0, 0)) := by rw [hw1]; exact heap_old (heap_new _ _) _
  have k2 : w1.heap[w.heap.size + 1]? = some (.cells #[.int .u64 x, .int .u64 y, .slice a n c] 39 (0, 0)) := by
    rw [hw1]
    have := heap_new (w.alloc (.cells #[.int .u64 x, .int .u64 y, v] 39)) (.cells #[.int .u64 x, .int .u64 y, .slice a n c] 39)
    rw [World.size_alloc] at this
    exact this
  have c0 := cell_in k1 (i := 0) rfl
  have c1 := cell_in k1 (i := 1) rfl
  have c2 := cell_in k1 (i := 2) rfl
  have d0 := cell_in k2 (i := 0) rfl
  have d1 := cell_in k2 (i := 1) rfl
  have d2 := cell_in k2 (i := 2) rfl
  have HS := Lib.hid (leftPairs (h.chg (Chg.of_below (fun _ => False) hb1) fun _ _ => id) (h'.below hb1) hn)
  obtain ⟨g, cp, rfl, _⟩ := h.slice
  have HW := Lib.hid hw1
  have HB := Lib.hid hb1
  clear h h' hn hw1 hb1 k1 k2
  go_enter Tryd.func43, Tryd.ntmps43
  go_wp2_with fail
  rw [← HW.out]
  refine HS.out.mono ?_
  rintro e' w2 ⟨rfl, b2⟩
  have HR := Lib.hid b2
  clear b2
  go_wp2_with fail
  go_ret
  exact ⟨rfl, HB.out.trans (HR.out.mono HB.out.size)⟩
end Go.Proofs.YtbjpfnafhhbmaaaDoor.Sad

/- what StreamSplits leans on: a slice cut short, two joined; the plain law. -/
namespace Go.Proofs.YtbjpfnafhhbmaaaDoor.Sad
open Go.Proofs.YtbjpfnafhhbmaaaDoor
set_option linter.unusedVariables false
set_option linter.unusedSimpArgs false
open Go.RowKit RT Go.Shelf
theorem SliceN.take {w : World} {B : Nat} {e : TypeId} {z : Nat} {a : Option Addr} {n c : Nat} {xs : List Value} (h : SliceN w B e z (.slice a n c) n xs) {k : Nat} (hk : k ≤ n) : SliceN w B e z (.slice a k c) k (xs.take (k * z)) := by
  refine ⟨by rw [List.length_take, h.1]; exact Nat.min_eq_left (Nat.mul_le_mul_right _ hk), ?_⟩
  rcases h.2 with ⟨h1, h2⟩ | ⟨g, cap, cur, h1, h2, h3, h4, h5, h6, h7⟩
  · simp only [Value.slice.injEq] at h1
    obtain ⟨rfl, _, rfl⟩ := h1
    obtain rfl : k = 0 := by omega
    exact .inl ⟨rfl, rfl⟩
  · simp only [Value.slice.injEq, true_and] at h1
    obtain ⟨rfl, rfl⟩ := h1
    refine .inr ⟨g, c, cur, rfl, h2, h3, h4, by omega, h6, ?_⟩
    rw [← h7, List.take_take, Nat.min_eq_left (Nat.mul_le_mul_right _ hk)]
theorem flat_take : ∀ (A : List Told) (k : Nat), (A.flatMap entV).take (k * 3) = (A.take k).flatMap entV
  | [], k => by simp
  | x :: A, 0 => by simp
  | x :: A, k + 1 => by
    rw [List.flatMap_cons, List.take_succ_cons, List.flatMap_cons, show (k + 1) * 3 = 3 + k * 3 by omega, ← flat_take A k]
    rw [List.take_append, List.take_of_length_le (by simp [entV])]
    simp [entV]
theorem Rows2.take {w : World} {Q : Nat → Prop} : ∀ {xs : List Told} {es : List Ent} (k : Nat), Rows2 w Q xs es → Rows2 w Q (xs.take k) (es.take k)
  | [], [], k, _ => by simp; trivial
  | x :: xs, e :: es, 0, _ => trivial
  | x :: xs, e :: es, k + 1, h => ⟨h.1, Rows2.take k h.2⟩
  | [], _ :: _, _, h => h.elim
  | _ :: _, [], _, h => h.elim
theorem EntsOut.take {w : World} {n₀ : Nat} {a : Option Addr} {n c : Nat} {E : List Ent} (h : EntsOut w n₀ (.slice a n c) E) {k : Nat} (hk : k ≤ n) : EntsOut w n₀ (.slice a k c) (E.take k) := by
  obtain ⟨Vs, h1, h2, h3⟩ := h
  have hl : Vs.length = n := by
    obtain ⟨a', c', e, _⟩ := h1.form
    simp only [Value.slice.injEq] at e
    exact e.2.1.symm
  rw [hl] at h1
  have hv : (Vs.take k).length = k := by rw [List.length_take]; omega
  refine ⟨Vs.take k, ?_, Rows2.imp (fun b _ hb => ⟨hb.1, fun e => hb.2 (by cases a with | none => cases e | some x => exact e)⟩) (Rows2.take k h2), ?_⟩
  · rw [hv, ← flat_take]
    exact SliceN.take h1 hk
  · rw [List.map_take]
    exact h3.sublist (List.take_sublist _ _)
theorem append_none {P : Program} {w : World} {B : Nat} {t ty e : TypeId} {i : TypeInfo} {z : Nat} (ht : P.underlying t = some (.slice e)) (hi : P.info? e = some i) {v : Value} {n : Nat} {xs : List Value} (h : SliceN w B e z v n xs) (A : Option Addr) (c : Nat) :
    (Builtin.append_ #[t, t] ty #[v, .slice A 0 c]).run P w = .ok v w := by
  rcases h.2 with ⟨rfl, rfl⟩ | ⟨g, cap, cur, rfl, _, _, _, hnc, _⟩ <;> cases A <;>
    simp [Builtin.append_, run_underlying ht, sizeOf, typeInfo, hi, Builtin.lenOf, Builtin.firstCells, storeCells, loadCells, loadCellsFrom, *]
theorem EntsOut.join {w : World} {n₁ n₂ : Nat} {v v2 : Value} {E1 E2 : List Ent} (h1 : EntsOut w n₁ v E1) (h2 : EntsOut w n₂ v2 E2) (hn : n₁ ≤ w.heap.size) (hap : ∀ k, vblock v = some k → k < n₂) (hsz : E1.length + E2.length ≤ 1000000000) :
    ∃ v' w' a c, (Builtin.append_ #[34, 34] 34 #[v, v2]).run Tryd.prog w = .ok v' w' ∧ v' = .slice a (E1 ++ E2).length c ∧ EntRow w' a (E1 ++ E2).length c (E1 ++ E2) ∧ Chg (fun k => vblock v = some k) w w' := by
  obtain ⟨i0, g1, g2, g3, g4⟩ := info_parts info_entry
  obtain ⟨a2, c2, hv2, hrow2⟩ := h2.row
  rcases Nat.eq_zero_or_pos E2.length with h0 | h0
  · have hE2 : E2 = [] := List.eq_nil_of_length_eq_zero h0
    subst hE2
    obtain ⟨a1, c1, hv1, hrow1⟩ := h1.row
    obtain ⟨Vs, s1, _⟩ := h1
    refine ⟨v, w, a1, c1, ?_, by rw [List.append_nil]; exact hv1, by rw [List.append_nil]; exact hrow1, Chg.refl _ _⟩
    rw [hv2]
    exact append_none Tryd.underlying34 g1 s1 _ _
  · obtain ⟨Vs, s1, r1, d1⟩ := h1
    obtain ⟨Us, s2, r2, d2⟩ := h2
    have l1 := r1.length
    have l2 := r2.length
    obtain ⟨g, cap, cur, he, _⟩ := s2.2.resolve_left (by omega)
    obtain ⟨v', w', hr, s3, c3, hv3⟩ := run_append_ownN (P := Tryd.prog) (t := 34) (ty := 34) (z := 3) (w := w) Tryd.underlying34 g1 g2 g3 g4 rfl s1 hn ⟨g, 0, none⟩ Us.length cap (Us.flatMap entV) (by omega) s2.1 (fun j u hu => by
      rw [Addr.add_lit, Nat.zero_add]
      have hj : j < Us.length * 3 := by
        rcases Nat.lt_or_ge j (Us.flatMap entV).length with h | h
        · rw [s2.1] at h; exact h
        · rw [List.getElem?_eq_none h] at hu; cases hu
      rw [s2.cell he hj]
      simp [List.getD, hu]) (fun u hu => by
      obtain ⟨x, _, hx⟩ := List.mem_flatMap.1 hu
      simp [entV] at hx
      rcases hx with rfl | rfl | rfl <;> rfl) (by unfold maxLen; omega) (by omega)
    have hr' : (Builtin.append_ #[34, 34] 34 #[v, v2]).run Tryd.prog w = .ok v' w' := by rw [he]; exact hr
    have hRows : Rows2 w' (fun _ => True) (Vs ++ Us) (E1 ++ E2) := by
      refine Rows2.append (Rows2.imp (fun _ _ _ => trivial) (Rows2.chg c3 (fun b hb he => hb.2 he) r1)) (Rows2.imp (fun _ _ _ => trivial) (Rows2.chg c3 (fun b hb he => ?_) r2))
      have := hap b he
      omega
    have hs3 : SliceN w' n₁ 39 3 v' (Vs ++ Us).length ((Vs ++ Us).flatMap entV) := by rw [List.length_append, List.flatMap_append]; exact s3
    have hl3 := hRows.length
    obtain ⟨a, c, hv, hc, _⟩ := hs3.form
    rw [hl3] at hv hc
    refine ⟨v', w', a, c, hr', hv, ⟨rfl, hc, .inr ?_⟩, c3⟩
    obtain ⟨g', cap', cur', he', _⟩ := hs3.2.resolve_left (by rw [List.length_append]; omega)
    rw [hv] at he'
    simp only [Value.slice.injEq] at he'
    obtain ⟨rfl, _, rfl⟩ := he'
    refine ⟨g', 0, rfl, fun i hi => ?_⟩
    have hi' : i < (Vs ++ Us).length := by omega
    have hrr := hRows.get i hi' hi
    refine ⟨(Vs ++ Us)[i], fun j hj => ?_, hrr.1, hrr.2.1, hrr.2.2.1.2⟩
    have := hs3.cell (g := g') (i := i * 3 + j) hv (by omega)
    rw [Nat.zero_add, this, flatE (Vs ++ Us) i hi' j hj]
abbrev RisesE (E : List Ent) : Prop := E.Pairwise fun x y => lessN x.1 y.1 = true
/-- Rising entries: those up to a place and those from it on. -/
theorem split_rise {E : List Ent} (h : RisesE E) (t : Nat × Nat) : ∃ A B, E = A ++ B ∧ (∀ e ∈ A, lessN e.1 t = true) ∧ (∀ e ∈ B, lessN e.1 t = false) := by
  induction E with
  | nil => exact ⟨[], [], rfl, by simp, by simp⟩
  | cons x E ih =>
    have h' := List.pairwise_cons.1 h
    cases hx : lessN x.1 t with
    | true =>
      obtain ⟨A, B, e, hA, hB⟩ := ih h'.2
      exact ⟨x :: A, B, by rw [e]; rfl, fun y hy => by rcases List.mem_cons.1 hy with rfl | hy; exact hx; exact hA y hy, hB⟩
    | false =>
      refine ⟨[], x :: E, rfl, by simp, fun y hy => ?_⟩
      rcases List.mem_cons.1 hy with rfl | hy
      · exact hx
      · have h1 := h'.1 y hy
        rcases less_total hx with h2 | h2
        · exact less_asymm (less_trans h2 h1)
        · rw [← h2]; exact less_asymm h1
theorem upto_split {A B : List Ent} {t : Nat × Nat} (hA : ∀ e ∈ A, lessN e.1 t = true) (hB : ∀ e ∈ B, lessN e.1 t = false) (h : RisesE (A ++ B)) :
    ((A ++ B).takeWhile fun e => !lessN t e.1) = A ++ (B.take 1).filter fun e => decide (e.1 = t) := by
  induction A with
  | nil =>
    rw [List.nil_append, List.nil_append]
    cases B with
    | nil => rfl
    | cons x B =>
      rw [List.takeWhile_cons]
      have hx := hB x (by simp)
      by_cases he : x.1 = t
      · rw [if_pos (by rw [he, less_irrefl]; rfl)]
        have h2 := (List.pairwise_cons.1 h).1
        have : (B.takeWhile fun e => !lessN t e.1) = [] := by
          cases B with
          | nil => rfl
          | cons y B =>
            rw [List.takeWhile_cons, if_neg]
            have := h2 y (by simp)
            rw [he] at this
            rw [this]; simp
        rw [this]
        simp [he]
      · have : lessN t x.1 = true := by
          rcases less_total hx with h2 | h2
          · exact h2
          · exact absurd h2 he
        rw [if_neg (by rw [this]; simp)]
        simp [he]
  | cons x A ih =>
    rw [List.cons_append, List.takeWhile_cons, if_pos (by rw [less_asymm (hA x (by simp))]; rfl), ih (fun e he => hA e (by simp [he])) (List.pairwise_cons.1 h).2]
    rfl
theorem from_split {A B : List Ent} {t : Nat × Nat} (hA : ∀ e ∈ A, lessN e.1 t = true) (hB : ∀ e ∈ B, lessN e.1 t = false) : ((A ++ B).filter fun e => !lessN e.1 t) = B := by
  rw [List.filter_append, List.filter_eq_nil_iff.2 fun e he => by rw [hA e he]; simp, List.filter_eq_self.2 fun e he => by rw [hB e he]; rfl, List.nil_append]
def topN : Nat × Nat := (18446744073709551615, 18446744073709551615)
theorem top_all {E : List Ent} (h : ∀ e ∈ E, e.1.1 < 18446744073709551616 ∧ e.1.2 < 18446744073709551616) : (E.takeWhile fun e => !lessN topN e.1) = E := by
  induction E with
  | nil => rfl
  | cons x E ih =>
    have hx := h x (by simp)
    have e : lessN topN x.1 = false := by
      unfold lessN topN
      rw [decide_eq_false_iff_not]
      dsimp only
      omega
    rw [List.takeWhile_cons, if_pos (by rw [e]; rfl), ih fun e he => h e (by simp [he])]
end Go.Proofs.YtbjpfnafhhbmaaaDoor.Sad

/- The law's asks: both answer alike. -/
namespace Go.Proofs.YtbjpfnafhhbmaaaDoor.Sad
open Go.Proofs.YtbjpfnafhhbmaaaDoor
set_option linter.unusedVariables false
set_option linter.unusedSimpArgs false
open Go.RowKit RT Go.Shelf
/-- What one side answers. -/
structure Ans where
  err : Int
  id : Nat × Nat
  ok : Bool
  cnt : Nat
  E : List Ent
/-- It answers v and stands as I' says. -/
def Done (I' : World → (Nat → Prop) → Prop) (F : Nat → Prop) (w : World) (v : Value) (e : Ending) (w' : World) : Prop :=
  e = .returned v ∧ ∃ F', I' w' F' ∧ Fresh w F F' ∧ Chg F w w'
/-- One side of an ask. -/
structure Side (fA fN fD fS fR fT : Nat) (v : Value) (I I' : World → (Nat → Prop) → Prop) (A : AskN) (r : Ans) : Prop where
  lt : ∀ w F, I w F → ∀ k, F k → k < w.heap.size
  lt' : ∀ w F, I' w F → ∀ k, F k → k < w.heap.size
  chg : ∀ w w' F S, I w F → Chg S w w' → (∀ k, F k → ¬ S k) → I w' F
  chg' : ∀ w w' F S, I' w F → Chg S w w' → (∀ k, F k → ¬ S k) → I' w' F
  add : A.k = 0 → ∀ w F a c, I w F → PairRow w a A.n c A.L → Calls Tryd.prog fA #[v, .agg #[.int .u64 A.id.1, .int .u64 A.id.2, .slice a A.n c]] w (Done I' F w (.int .i64 r.err))
  next : A.k = 1 → ∀ w F, I w F → Calls Tryd.prog fN #[v, .int .i64 A.N] w (Done I' F w (.tuple #[.agg #[.int .u64 r.id.1, .int .u64 r.id.2], .bool r.ok]))
  del : A.k = 2 → ∀ w F, I w F → Calls Tryd.prog fD #[v, .agg #[.int .u64 A.id.1, .int .u64 A.id.2]] w (Done I' F w (.bool r.ok))
  setLast : A.k = 3 → ∀ w F, I w F → Calls Tryd.prog fS #[v, .agg #[.int .u64 A.id.1, .int .u64 A.id.2]] w (Done I' F w (.int .i64 r.err))
  range : A.k = 4 → ∀ w F, I w F → Calls Tryd.prog fR #[v, .agg #[.int .u64 A.id.1, .int .u64 A.id.2], .agg #[.int .u64 A.to.1, .int .u64 A.to.2], .int .i64 A.N] w fun e w' => ∃ a c, e = .returned (.slice a r.E.length c) ∧ EntRow w' a r.E.length c r.E ∧ I' w' F ∧ Below w.heap.size w w'
  trim : A.k ≠ 0 → A.k ≠ 1 → A.k ≠ 2 → A.k ≠ 3 → A.k ≠ 4 → ∀ w F, I w F → Calls Tryd.prog fT #[v, .int .i64 A.N] w (Done I' F w (.int .i64 (r.cnt : Nat)))
  few : r.E.length ≤ 4000000000000
abbrev SideS := Side 25 23 32 33 15 34
abbrev SideX := Side 42 44 45 46 47 48
def askV (A : AskN) : Value := .agg #[.int .u8 A.k, .int .u64 A.id.1, .int .u64 A.id.2, .slice A.a A.n A.c, .int .u64 A.to.1, .int .u64 A.to.2, .int .i64 A.N]
/-- Both stand, apart. -/
def Both (I I' : World → (Nat → Prop) → Prop) (F F' : Nat → Prop) (w : World) : Prop := I w F ∧ I' w F' ∧ ∀ k, F k → ¬ F' k
def AskDone (IS IX : World → (Nat → Prop) → Prop) (F G : Nat → Prop) (w : World) (e : Ending) (w' : World) : Prop :=
  e = .returned (.bool true) ∧ ∃ F' G', Both IS IX F' G' w' ∧ Fresh w F F' ∧ Fresh w G G' ∧ Chg (fun k => F k ∨ G k) w w'
section
variable {v x : Value} {IS IS' IX IX' : World → (Nat → Prop) → Prop} {A : AskN} {r : Ans}
/-- The one after the other. -/
theorem both_step (hS : SideS v IS IS' A r) (hX : SideX x IX IX' A r) {w w1 w2 w3 w4 : World} {F F' G G' : Nat → Prop} (h : Both IS IX F G w) (b1 : Below w.heap.size w w1) (h1 : Fresh w1 F F') (h2 : IS' w2 F') (h3 : Chg F w1 w2) (b3 : Below w2.heap.size w2 w3) (h4 : Fresh w3 G G') (h5 : IX' w4 G') (h6 : Chg G w3 w4) :
    Both IS' IX' F' G' w4 ∧ Fresh w F F' ∧ Fresh w G G' ∧ Chg (fun k => F k ∨ G k) w w4 := by
  have hsz1 := b1.size
  have hsz2 := h3.size
  have hsz3 := b3.size
  have hF' := hS.lt' _ _ h2
  have hG := hX.lt _ _ h.2.1
  have hF := hS.lt _ _ h.1
  refine ⟨⟨?_, h5, fun k hk hk' => ?_⟩, fun k hk => (h1 k hk).imp id fun h => by omega, fun k hk => (h4 k hk).imp id fun h => by omega, ?_⟩
  · refine hS.chg' _ _ _ G (hS.chg' _ _ _ (fun _ => False) h2 (Chg.of_below _ b3) fun _ _ => id) h6 fun k hk hk' => ?_
    rcases h1 k hk with h' | h'
    · exact h.2.2 k h' hk'
    · have := hG k hk'; omega
  · rcases h4 k hk' with h' | h'
    · rcases h1 k hk with h'' | h''
      · exact h.2.2 k h'' h'
      · have := hG k h'; omega
    · have := hF' k hk; omega
  · exact (((Chg.of_below (fun k => F k ∨ G k) b1).trans (h3.mono fun k hk _ => .inl hk) fun _ h _ => h).trans (Chg.of_below (fun k => F k ∨ G k) b3) fun _ h _ => h).trans (h6.mono fun k hk _ => .inr hk) fun _ h _ => h
theorem ask_mid (hS : SideS v IS IS' A r) (hX : SideX x IX IX' A r) {w w1 w2 w3 : World} {F G : Nat → Prop} (h : Both IS IX F G w) (b1 : Below w.heap.size w w1) (h3 : Chg F w1 w2) (b3 : Below w2.heap.size w2 w3) : IX w3 G := by
  refine hX.chg _ _ _ (fun _ => False) (hX.chg _ _ _ F (hX.chg _ _ _ (fun _ => False) h.2.1 (Chg.of_below _ b1) fun _ _ => id) h3 fun k hk hk' => h.2.2 k hk' hk) (Chg.of_below _ b3) fun _ _ => id
theorem ask_first (hS : SideS v IS IS' A r) {w w1 : World} {F G : Nat → Prop} (h : Both IS IX F G w) (b1 : Below w.heap.size w w1) : IS w1 F := hS.chg _ _ _ (fun _ => False) h.1 (Chg.of_below _ b1) fun _ _ => id
end
end Go.Proofs.YtbjpfnafhhbmaaaDoor.Sad

/- asks: Delete, SetLast, Trim. -/
namespace Go.Proofs.YtbjpfnafhhbmaaaDoor.Sad
open Go.Proofs.YtbjpfnafhhbmaaaDoor
set_option linter.unusedVariables false
set_option linter.unusedSimpArgs false
open Go.RowKit RT Go.Shelf
def askCells (A : AskN) : Array Value := #[.int .u8 A.k, .int .u64 A.id.1, .int .u64 A.id.2, .slice A.a A.n A.c, .int .u64 A.to.1, .int .u64 A.to.2, .int .i64 A.N]
section
variable {v x : Value} {IS IS' IX IX' : World → (Nat → Prop) → Prop} {A : AskN} {r : Ans}
theorem ask_box (hS : SideS v IS IS' A r) (hX : SideX x IX IX' A r) {w : World} {F G : Nat → Prop} (h : Both IS IX F G w) :
    ∃ w1, w1 = w.alloc (.cells (askCells A) 48) ∧ Below w.heap.size w w1 ∧ (∀ w', Chg (fun k => F k ∨ G k) w1 w' → w'.heap[w.heap.size]? = some (.cells (askCells A) 48 (0, 0))) := by
  refine ⟨_, rfl, (Below.refl _ _).alloc (Nat.le_refl _) _, fun w' hc => ?_⟩
  refine hc.keep (heap_new _ _) fun hk => ?_
  rcases hk with hk | hk
  · have := hS.lt _ _ h.1 _ hk; omega
  · have := hX.lt _ _ h.2.1 _ hk; omega
set_option maxHeartbeats 3200000 in
set_option maxRecDepth 100000 in
theorem ask_del (hS : SideS v IS IS' A r) (hX : SideX x IX IX' A r) (hk : A.k = 2) {w : World} {F G : Nat → Prop} (h : Both IS IX F G w) :
    Calls Tryd.prog 20 #[v, x, askV A] w (AskDone IS' IX' F G w) := by
  obtain ⟨w1, hw1, hb1, hbox⟩ := ask_box hS hX h
  have e0 : (A.k == 0) = false := by simp [hk]
  have e1 : (A.k == 1) = false := by simp [hk]
  have e2 : (A.k == 2) = true := by simp [hk]
  have H := Lib.hid (And.intro hS (And.intro hX (And.intro h hb1)))
  have HCS := Lib.hid (hS.del hk)
  have HCX := Lib.hid (hX.del hk)
  have hc0 : w1.cell? ⟨w.heap.size, 0, none⟩ = some (.int .u8 A.k) := cell_in (hbox _ (Chg.refl _ _)) rfl
  obtain ⟨X1, fw, hX1, hfw, hF⟩ := classOf (fun w' => w'.cell? ⟨w.heap.size, 1, none⟩ = some (.int .u64 A.id.1) ∧ w'.cell? ⟨w.heap.size, 1 + 1, none⟩ = some (.int .u64 A.id.2)) (w := w1.drew) (by
    have := hbox _ (Chg.drew _ w1)
    exact ⟨cell_in this rfl, cell_in this rfl⟩)
  have f1 := fun x => (hfw x).1
  have f2 := fun x => (hfw x).2
  have HFa := Lib.hid (show ∀ w', Chg (fun k => F k ∨ G k) w1 w' → ∃ x : X1, w' = fw x from fun w' hb => by
    have := hbox _ hb
    exact hF w' ⟨cell_in this rfl, cell_in this rfl⟩)
  have HW := Lib.hid hw1
  unfold askCells at HW
  clear hF hfw hbox hw1 hb1 h hS hX hk
  unfold askV
  go_enter Tryd.func20, Tryd.ntmps20
  go_upto_region 1 with (fail)
  rw [← HW.out]
  go_upto_region 15 with (fail)
  refine wp_region_text ⟨[4, 9], [10, 11], 9⟩ (fun w' => ∃ x : X1, w' = fw x) (by kernel_rfl) (by kernel_rfl) (HFa.out _ (Chg.drew _ w1)) ?_
  refine wpC_seg false (HFa.out _ (Chg.drew _ w1)) 4 0 _ _ (by rfl) (by rfl) ?_
  simp only [List.take_succ_cons, List.take_zero, List.drop_succ_cons, List.drop_zero, Bool.false_eq_true, if_false, Nat.zero_add, Nat.reduceAdd]
  repeat (go_big_quiet_step (fail))
  refine wpQuiet_nil ?_
  refine wpC_loud (by rfl) (by rfl) fun K hK => ?_
  go_wp2_with fail
  refine (HCS.out _ _ (ask_first H.out.1 H.out.2.2.1 (belowN H.out.2.2.2 1))).mono ?_
  rintro e w2 ⟨rfl, F', i2, f2', c2⟩
  have HD := Lib.hid (And.intro i2 (And.intro f2' c2))
  have hch2 : Chg (fun k => F k ∨ G k) w1 w2 := (Chg.drew _ w1).trans (c2.mono fun k hk _ => .inl hk) fun _ h _ => h
  have HC2 := Lib.hid hch2
  refine hK _ _ (fun _ => HFa.out _ hch2) ?_
  clear hK i2 f2' c2 hch2
  refine wpC_seg false (HFa.out _ HC2.out) 4 5 _ _ (by rfl) (by rfl) ?_
  simp only [List.take_succ_cons, List.take_zero, List.drop_succ_cons, List.drop_zero, Bool.false_eq_true, if_false, Nat.zero_add, Nat.reduceAdd]
  repeat (go_big_quiet_step (fail))
  refine wpQuiet_nil ?_
  refine wpC_loud (by rfl) (by rfl) fun K hK => ?_
  go_wp2_with fail
  refine (HCX.out _ _ (ask_mid H.out.1 H.out.2.1 H.out.2.2.1 (belowN H.out.2.2.2 1) HD.out.2.2 (Below.refl _ _))).mono ?_
  rintro e w4 ⟨rfl, G', i4, f4, c4⟩
  have HE := Lib.hid (both_step H.out.1 H.out.2.1 H.out.2.2.1 (belowN H.out.2.2.2 1) HD.out.2.1 HD.out.1 HD.out.2.2 (Below.refl _ _) f4 i4 c4)
  refine hK _ _ (fun h => absurd h (by decide)) ?_
  clear hK i4 f4 c4
  refine wpC_segD 2 10 _ _ (by rfl) (by rfl) ?_
  simp only [List.take_succ_cons, List.take_zero, List.drop_succ_cons, List.drop_zero, if_true, Nat.zero_add, Nat.reduceAdd]
  repeat (go_big_quiet_step (fail))
  refine wpQuiet_nil ?_
  refine wpC_nil ?_
  go_wp2_with fail
  go_ret
  exact ⟨rfl, F', G', HE.out⟩
set_option maxHeartbeats 3200000 in
set_option maxRecDepth 100000 in
theorem ask_setLast (hS : SideS v IS IS' A r) (hX : SideX x IX IX' A r) (hk : A.k = 3) {w : World} {F G : Nat → Prop} (h : Both IS IX F G w) :
    Calls Tryd.prog 20 #[v, x, askV A] w (AskDone IS' IX' F G w) := by
  obtain ⟨w1, hw1, hb1, hbox⟩ := ask_box hS hX h
  have e0 : (A.k == 0) = false := by simp [hk]
  have e1 : (A.k == 1) = false := by simp [hk]
  have e2 : (A.k == 2) = false := by simp [hk]
  have e3 : (A.k == 3) = true := by simp [hk]
  have H := Lib.hid (And.intro hS (And.intro hX (And.intro h hb1)))
  have HCS := Lib.hid (hS.setLast hk)
  have HCX := Lib.hid (hX.setLast hk)
  have hc0 : w1.cell? ⟨w.heap.size, 0, none⟩ = some (.int .u8 A.k) := cell_in (hbox _ (Chg.refl _ _)) rfl
  obtain ⟨X1, fw, hX1, hfw, hF⟩ := classOf (fun w' => w'.cell? ⟨w.heap.size, 1, none⟩ = some (.int .u64 A.id.1) ∧ w'.cell? ⟨w.heap.size, 1 + 1, none⟩ = some (.int .u64 A.id.2)) (w := w1.drew) (by
    have := hbox _ (Chg.drew _ w1)
    exact ⟨cell_in this rfl, cell_in this rfl⟩)
  have f1 := fun x => (hfw x).1
  have f2 := fun x => (hfw x).2
  have HFa := Lib.hid (show ∀ w', Chg (fun k => F k ∨ G k) w1 w' → ∃ x : X1, w' = fw x from fun w' hb => by
    have := hbox _ hb
    exact hF w' ⟨cell_in this rfl, cell_in this rfl⟩)
  have HW := Lib.hid hw1
  unfold askCells at HW
  clear hF hfw hbox hw1 hb1 h hS hX hk
  unfold askV
  go_enter Tryd.func20, Tryd.ntmps20
  go_upto_region 1 with (fail)
  rw [← HW.out]
  go_upto_region 17 with (fail)
  refine wp_region_text ⟨[4, 9], [10, 11], 9⟩ (fun w' => ∃ x : X1, w' = fw x) (by kernel_rfl) (by kernel_rfl) (HFa.out _ (Chg.drew _ w1)) ?_
  refine wpC_seg false (HFa.out _ (Chg.drew _ w1)) 4 0 _ _ (by rfl) (by rfl) ?_
  simp only [List.take_succ_cons, List.take_zero, List.drop_succ_cons, List.drop_zero, Bool.false_eq_true, if_false, Nat.zero_add, Nat.reduceAdd]
  repeat (go_big_quiet_step (fail))
  refine wpQuiet_nil ?_
  refine wpC_loud (by rfl) (by rfl) fun K hK => ?_
  go_wp2_with fail
  refine (HCS.out _ _ (ask_first H.out.1 H.out.2.2.1 (belowN H.out.2.2.2 1))).mono ?_
  rintro e w2 ⟨rfl, F', i2, f2', c2⟩
  have HD := Lib.hid (And.intro i2 (And.intro f2' c2))
  have hch2 : Chg (fun k => F k ∨ G k) w1 w2 := (Chg.drew _ w1).trans (c2.mono fun k hk _ => .inl hk) fun _ h _ => h
  have HC2 := Lib.hid hch2
  refine hK _ _ (fun _ => HFa.out _ hch2) ?_
  clear hK i2 f2' c2 hch2
  refine wpC_seg false (HFa.out _ HC2.out) 4 5 _ _ (by rfl) (by rfl) ?_
  simp only [List.take_succ_cons, List.take_zero, List.drop_succ_cons, List.drop_zero, Bool.false_eq_true, if_false, Nat.zero_add, Nat.reduceAdd]
  repeat (go_big_quiet_step (fail))
  refine wpQuiet_nil ?_
  refine wpC_loud (by rfl) (by rfl) fun K hK => ?_
  go_wp2_with fail
  refine (HCX.out _ _ (ask_mid H.out.1 H.out.2.1 H.out.2.2.1 (belowN H.out.2.2.2 1) HD.out.2.2 (Below.refl _ _))).mono ?_
  rintro e w4 ⟨rfl, G', i4, f4, c4⟩
  have HE := Lib.hid (both_step H.out.1 H.out.2.1 H.out.2.2.1 (belowN H.out.2.2.2 1) HD.out.2.1 HD.out.1 HD.out.2.2 (Below.refl _ _) f4 i4 c4)
  refine hK _ _ (fun h => absurd h (by decide)) ?_
  clear hK i4 f4 c4
  refine wpC_segD 2 10 _ _ (by rfl) (by rfl) ?_
  simp only [List.take_succ_cons, List.take_zero, List.drop_succ_cons, List.drop_zero, if_true, Nat.zero_add, Nat.reduceAdd]
  repeat (go_big_quiet_step (fail))
  refine wpQuiet_nil ?_
  refine wpC_nil ?_
  go_wp2_with fail
  go_ret
  exact ⟨rfl, F', G', HE.out⟩
set_option maxHeartbeats 3200000 in
set_option maxRecDepth 100000 in
theorem ask_trim (hS : SideS v IS IS' A r) (hX : SideX x IX IX' A r) (k0 : A.k ≠ 0) (k1 : A.k ≠ 1) (k2 : A.k ≠ 2) (k3 : A.k ≠ 3) (k4 : A.k ≠ 4) {w : World} {F G : Nat → Prop} (h : Both IS IX F G w) :
    Calls Tryd.prog 20 #[v, x, askV A] w (AskDone IS' IX' F G w) := by
  obtain ⟨w1, hw1, hb1, hbox⟩ := ask_box hS hX h
  have e0 : (A.k == 0) = false := by simp [k0]
  have e1 : (A.k == 1) = false := by simp [k1]
  have e2 : (A.k == 2) = false := by simp [k2]
  have e3 : (A.k == 3) = false := by simp [k3]
  have e4 : (A.k == 4) = false := by simp [k4]
  have H := Lib.hid (And.intro hS (And.intro hX (And.intro h hb1)))
  have HCS := Lib.hid (hS.trim k0 k1 k2 k3 k4)
  have HCX := Lib.hid (hX.trim k0 k1 k2 k3 k4)
  have hc0 : w1.cell? ⟨w.heap.size, 0, none⟩ = some (.int .u8 A.k) := cell_in (hbox _ (Chg.refl _ _)) rfl
  obtain ⟨X1, fw, hX1, hfw, hF⟩ := classOf (fun w' => w'.cell? ⟨w.heap.size, 6, none⟩ = some (.int .i64 A.N)) (w := w1.drew) (by
    have := hbox _ (Chg.drew _ w1)
    exact cell_in this rfl)
  have f1 := fun x => hfw x
  have HFa := Lib.hid (show ∀ w', Chg (fun k => F k ∨ G k) w1 w' → ∃ x : X1, w' = fw x from fun w' hb => by
    have := hbox _ hb
    exact hF w' (cell_in this rfl))
  have HW := Lib.hid hw1
  unfold askCells at HW
  clear hF hfw hbox hw1 hb1 h hS hX k0 k1 k2 k3 k4
  unfold askV
  go_enter Tryd.func20, Tryd.ntmps20
  go_upto_region 1 with (fail)
  rw [← HW.out]
  go_upto_region 20 with (fail)
  refine wp_region_text ⟨[3, 7], [8, 9], 7⟩ (fun w' => ∃ x : X1, w' = fw x) (by kernel_rfl) (by kernel_rfl) (HFa.out _ (Chg.drew _ w1)) ?_
  refine wpC_seg false (HFa.out _ (Chg.drew _ w1)) 3 0 _ _ (by rfl) (by rfl) ?_
  simp only [List.take_succ_cons, List.take_zero, List.drop_succ_cons, List.drop_zero, Bool.false_eq_true, if_false, Nat.zero_add, Nat.reduceAdd]
  repeat (go_big_quiet_step (fail))
  refine wpQuiet_nil ?_
  refine wpC_loud (by rfl) (by rfl) fun K hK => ?_
  go_wp2_with fail
  refine (HCS.out _ _ (ask_first H.out.1 H.out.2.2.1 (belowN H.out.2.2.2 1))).mono ?_
  rintro e w2 ⟨rfl, F', i2, f2', c2⟩
  have HD := Lib.hid (And.intro i2 (And.intro f2' c2))
  have hch2 : Chg (fun k => F k ∨ G k) w1 w2 := (Chg.drew _ w1).trans (c2.mono fun k hk _ => .inl hk) fun _ h _ => h
  have HC2 := Lib.hid hch2
  refine hK _ _ (fun _ => HFa.out _ hch2) ?_
  clear hK i2 f2' c2 hch2
  refine wpC_seg false (HFa.out _ HC2.out) 3 4 _ _ (by rfl) (by rfl) ?_
  simp only [List.take_succ_cons, List.take_zero, List.drop_succ_cons, List.drop_zero, Bool.false_eq_true, if_false, Nat.zero_add, Nat.reduceAdd]
  repeat (go_big_quiet_step (fail))
  refine wpQuiet_nil ?_
  refine wpC_loud (by rfl) (by rfl) fun K hK => ?_
  go_wp2_with fail
  refine (HCX.out _ _ (ask_mid H.out.1 H.out.2.1 H.out.2.2.1 (belowN H.out.2.2.2 1) HD.out.2.2 (Below.refl _ _))).mono ?_
  rintro e w4 ⟨rfl, G', i4, f4, c4⟩
  have HE := Lib.hid (both_step H.out.1 H.out.2.1 H.out.2.2.1 (belowN H.out.2.2.2 1) HD.out.2.1 HD.out.1 HD.out.2.2 (Below.refl _ _) f4 i4 c4)
  refine hK _ _ (fun h => absurd h (by decide)) ?_
  clear hK i4 f4 c4
  refine wpC_segD 2 8 _ _ (by rfl) (by rfl) ?_
  simp only [List.take_succ_cons, List.take_zero, List.drop_succ_cons, List.drop_zero, if_true, Nat.zero_add, Nat.reduceAdd]
  repeat (go_big_quiet_step (fail))
  refine wpQuiet_nil ?_
  refine wpC_nil ?_
  go_wp2_with fail
  go_ret
  exact ⟨rfl, F', G', HE.out⟩
end
end Go.Proofs.YtbjpfnafhhbmaaaDoor.Sad

/- asks: Next, Range. -/
namespace Go.Proofs.YtbjpfnafhhbmaaaDoor.Sad
open Go.Proofs.YtbjpfnafhhbmaaaDoor
set_option linter.unusedVariables false
set_option linter.unusedSimpArgs false
open Go.RowKit RT Go.Shelf
section
variable {v x : Value} {IS IS' IX IX' : World → (Nat → Prop) → Prop} {A : AskN} {r : Ans}
set_option maxHeartbeats 3200000 in
set_option maxRecDepth 100000 in
theorem ask_next (hS : SideS v IS IS' A r) (hX : SideX x IX IX' A r) (hk : A.k = 1) {w : World} {F G : Nat → Prop} (h : Both IS IX F G w) :
    Calls Tryd.prog 20 #[v, x, askV A] w (AskDone IS' IX' F G w) := by
  obtain ⟨w1, hw1, hb1, hbox⟩ := ask_box hS hX h
  have e0 : (A.k == 0) = false := by simp [hk]
  have e1 : (A.k == 1) = true := by simp [hk]
  have H := Lib.hid (And.intro hS (And.intro hX (And.intro h hb1)))
  have HCS := Lib.hid (hS.next hk)
  have HCX := Lib.hid (hX.next hk)
  have hc0 : w1.cell? ⟨w.heap.size, 0, none⟩ = some (.int .u8 A.k) := cell_in (hbox _ (Chg.refl _ _)) rfl
  have hc6 : w1.cell? ⟨w.heap.size, 6, none⟩ = some (.int .i64 A.N) := cell_in (hbox _ (Chg.refl _ _)) rfl
  have HBx := Lib.hid hbox
  have HW := Lib.hid hw1
  unfold askCells at HW
  clear hbox hw1 hb1 h hS hX hk
  unfold askV
  go_enter Tryd.func20, Tryd.ntmps20
  go_upto_region 1 with (fail)
  rw [← HW.out]
  go_wp2_with fail
  refine (HCS.out _ _ (ask_first H.out.1 H.out.2.2.1 H.out.2.2.2)).mono ?_
  rintro e w2 ⟨rfl, F', i2, f2', c2⟩
  have HD := Lib.hid (And.intro i2 (And.intro f2' c2))
  obtain ⟨w3, hw3⟩ : ∃ w3, w3 = w2.alloc (.cells #[.int .u64 r.id.1, .int .u64 r.id.2] 24) := ⟨_, rfl⟩
  have hb3 : Below w2.heap.size w2 w3 := by rw [hw3]; exact (Below.refl _ _).alloc (Nat.le_refl _) _
  have hn3 : w3.heap[w2.heap.size]? = some (.cells #[.int .u64 r.id.1, .int .u64 r.id.2] 24 (0, 0)) := by rw [hw3]; exact heap_new _ _
  have hch3 : Chg (fun k => F k ∨ G k) w1 w3 := (c2.mono fun k hk _ => .inl hk).trans (Chg.of_below (fun k => F k ∨ G k) hb3) fun _ h _ => h
  have hd6 : w3.cell? ⟨w.heap.size, 6, none⟩ = some (.int .i64 A.N) := cell_in (HBx.out _ hch3) rfl
  have HW3 := Lib.hid hw3
  have HB3 := Lib.hid (And.intro hb3 hn3)
  clear i2 f2' c2 hw3 hb3 hn3 hch3
  go_upto_region 12 with (fail)
  rw [← HW3.out]
  go_wp2_with fail
  refine (HCX.out _ _ (ask_mid H.out.1 H.out.2.1 H.out.2.2.1 H.out.2.2.2 HD.out.2.2 HB3.out.1)).mono ?_
  rintro e w4 ⟨rfl, G', i4, f4, c4⟩
  have hE := both_step H.out.1 H.out.2.1 H.out.2.2.1 H.out.2.2.2 HD.out.2.1 HD.out.1 HD.out.2.2 HB3.out.1 f4 i4 c4
  obtain ⟨w5, hw5⟩ : ∃ w5, w5 = w4.alloc (.cells #[.int .u64 r.id.1, .int .u64 r.id.2] 24) := ⟨_, rfl⟩
  have hb5 : Below w4.heap.size w4 w5 := by rw [hw5]; exact (Below.refl _ _).alloc (Nat.le_refl _) _
  have hn5 : w5.heap[w4.heap.size]? = some (.cells #[.int .u64 r.id.1, .int .u64 r.id.2] 24 (0, 0)) := by rw [hw5]; exact heap_new _ _
  have hn4 : w5.heap[w2.heap.size]? = some (.cells #[.int .u64 r.id.1, .int .u64 r.id.2] 24 (0, 0)) := by
    have h4 := c4.keep HB3.out.2 fun hG => by
      have h1 := H.out.2.1.lt _ _ H.out.2.2.1.2.1 _ hG
      have h2 := H.out.2.2.2.size
      have h3 := HD.out.2.2.size
      omega
    rw [hw5]; exact heap_old h4 _
  have p0 := cell_in hn4 (i := 0) rfl
  have p1 := cell_in hn4 (i := 1) rfl
  have q0 := cell_in hn5 (i := 0) rfl
  have q1 := cell_in hn5 (i := 1) rfl
  have HE := Lib.hid (show ∃ F' G', Both IS' IX' F' G' w5 ∧ Fresh w F F' ∧ Fresh w G G' ∧ Chg (fun k => F k ∨ G k) w w5 from by
    refine ⟨F', G', ⟨H.out.1.chg' _ _ _ (fun _ => False) hE.1.1 (Chg.of_below _ hb5) fun _ _ => id, H.out.2.1.chg' _ _ _ (fun _ => False) hE.1.2.1 (Chg.of_below _ hb5) fun _ _ => id, hE.1.2.2⟩, hE.2.1, hE.2.2.1, hE.2.2.2.trans (Chg.of_below (fun k => F k ∨ G k) hb5) fun _ h _ => h⟩)
  have HW5 := Lib.hid hw5
  clear i4 f4 c4 hE hw5 hb5 hn5 hn4 hd6
  go_upto_region 13 with (fail)
  rw [← HW5.out]
  go_wp2_with fail
  go_ret
  exact ⟨rfl, HE.out⟩
set_option maxHeartbeats 3200000 in
set_option maxRecDepth 100000 in
theorem ask_range (hS : SideS v IS IS' A r) (hX : SideX x IX IX' A r) (hk : A.k = 4) {w : World} {F G : Nat → Prop} (h : Both IS IX F G w) :
    Calls Tryd.prog 20 #[v, x, askV A] w (AskDone IS' IX' F G w) := by
  obtain ⟨w1, hw1, hb1, hbox⟩ := ask_box hS hX h
  have e0 : (A.k == 0) = false := by simp [hk]
  have e1 : (A.k == 1) = false := by simp [hk]
  have e2 : (A.k == 2) = false := by simp [hk]
  have e3 : (A.k == 3) = false := by simp [hk]
  have e4 : (A.k == 4) = true := by simp [hk]
  have H := Lib.hid (And.intro hS (And.intro hX (And.intro h hb1)))
  have HCS := Lib.hid (hS.range hk)
  have HCX := Lib.hid (hX.range hk)
  have hc0 : w1.cell? ⟨w.heap.size, 0, none⟩ = some (.int .u8 A.k) := cell_in (hbox _ (Chg.refl _ _)) rfl
  obtain ⟨X1, fw, hX1, hfw, hF⟩ := classOf (fun w' => w'.cell? ⟨w.heap.size, 1, none⟩ = some (.int .u64 A.id.1) ∧ w'.cell? ⟨w.heap.size, 1 + 1, none⟩ = some (.int .u64 A.id.2) ∧ w'.cell? ⟨w.heap.size, 4, none⟩ = some (.int .u64 A.to.1) ∧ w'.cell? ⟨w.heap.size, 4 + 1, none⟩ = some (.int .u64 A.to.2) ∧ w'.cell? ⟨w.heap.size, 6, none⟩ = some (.int .i64 A.N)) (w := w1.drew) (by
    have := hbox _ (Chg.drew _ w1)
    exact ⟨cell_in this rfl, cell_in this rfl, cell_in this rfl, cell_in this rfl, cell_in this rfl⟩)
  have f1 := fun x => (hfw x).1
  have f2 := fun x => (hfw x).2.1
  have f3 := fun x => (hfw x).2.2.1
  have f4 := fun x => (hfw x).2.2.2.1
  have f5 := fun x => (hfw x).2.2.2.2
  have HFa := Lib.hid (show ∀ w', Below w1.heap.size w1 w' → ∃ x : X1, w' = fw x from fun w' hb => by
    have := hbox _ (Chg.of_below _ hb)
    exact hF w' ⟨cell_in this rfl, cell_in this rfl, cell_in this rfl, cell_in this rfl, cell_in this rfl⟩)
  have HW := Lib.hid hw1
  unfold askCells at HW
  have hd : Below w1.heap.size w1 w1.drew := belowN (Below.refl _ _) 1
  have hd0 := HFa.out _ hd
  clear hF hfw hbox hw1 hb1 h hS hX hk
  unfold askV
  go_enter Tryd.func20, Tryd.ntmps20
  go_upto_region 1 with (fail)
  rw [← HW.out]
  go_upto_region 19 with (fail)
  refine wp_region_text ⟨[8, 17, 18], [19], 17⟩ (fun w' => ∃ x : X1, w' = fw x) (by kernel_rfl) (by kernel_rfl) hd0 ?_
  refine wpC_seg false (hd0) 8 0 _ _ (by rfl) (by rfl) ?_
  simp only [List.take_succ_cons, List.take_zero, List.drop_succ_cons, List.drop_zero, Bool.false_eq_true, if_false, Nat.zero_add, Nat.reduceAdd]
  repeat (go_big_quiet_step (fail))
  refine wpQuiet_nil ?_
  refine wpC_loud (by rfl) (by rfl) fun K hK => ?_
  go_wp2_with fail
  refine (HCS.out _ _ (ask_first H.out.1 H.out.2.2.1 (belowN H.out.2.2.2 1))).mono ?_
  rintro e w2 ⟨a, c, rfl, hr, i2, b2⟩
  have hb2 := hd.trans (b2.mono hd.size)
  have HD := Lib.hid (And.intro hr (And.intro i2 (And.intro b2 hb2)))
  refine hK _ _ (fun _ => HFa.out _ hb2) ?_
  clear hK hr i2 b2 hb2
  refine wpC_seg false (HFa.out _ HD.out.2.2.2) 8 9 _ _ (by rfl) (by rfl) ?_
  simp only [List.take_succ_cons, List.take_zero, List.drop_succ_cons, List.drop_zero, Bool.false_eq_true, if_false, Nat.zero_add, Nat.reduceAdd]
  repeat (go_big_quiet_step (fail))
  refine wpQuiet_nil ?_
  refine wpC_loud (by rfl) (by rfl) fun K hK => ?_
  go_wp2_with fail
  refine (HCX.out _ _ (ask_mid H.out.1 H.out.2.1 H.out.2.2.1 (belowN H.out.2.2.2 1) (Chg.of_below F HD.out.2.2.1) (Below.refl _ _))).mono ?_
  rintro e w4 ⟨a', c', rfl, hr4, i4, b4⟩
  refine hK _ _ (fun h => absurd h (by decide)) ?_
  clear hK
  have HS := Lib.hid (sameEntries (HD.out.1.chg b4) hr4 H.out.1.few)
  have HX4 := Lib.hid (And.intro i4 b4)
  clear hr4 i4 b4
  refine wpC_loud (by rfl) (by rfl) fun K hK => ?_
  go_wp2_with fail
  refine HS.out.mono ?_
  rintro e w5 ⟨rb, rfl, hrb, b5⟩
  obtain rfl : rb = true := hrb.2 trivial
  refine hK _ _ (fun h => absurd h (by decide)) ?_
  clear hK hrb
  have HE := Lib.hid (both_step H.out.1 H.out.2.1 H.out.2.2.1 (belowN H.out.2.2.2 1) (F' := F) (fun k hk => .inl hk) HD.out.2.1 (Chg.of_below F HD.out.2.2.1) (Below.refl _ _) (G' := G) (fun k hk => .inl hk) (H.out.2.1.chg' _ _ _ (fun _ => False) HX4.out.1 (Chg.of_below _ b5) fun _ _ => id) ((Chg.of_below G HX4.out.2).trans (Chg.of_below G b5) fun _ h _ => h))
  clear b5
  refine wpC_segD 1 19 _ _ (by rfl) (by rfl) ?_
  simp only [List.take_succ_cons, List.take_zero, List.drop_succ_cons, List.drop_zero, if_true, Nat.zero_add, Nat.reduceAdd]
  repeat (go_big_quiet_step (fail))
  refine wpQuiet_nil ?_
  refine wpC_nil ?_
  go_wp2_with fail
  go_ret
  exact ⟨rfl, F, G, HE.out⟩
end
end Go.Proofs.YtbjpfnafhhbmaaaDoor.Sad

/- asks: Add. -/
namespace Go.Proofs.YtbjpfnafhhbmaaaDoor.Sad
open Go.Proofs.YtbjpfnafhhbmaaaDoor
set_option linter.unusedVariables false
set_option linter.unusedSimpArgs false
open Go.RowKit RT Go.Shelf
section
variable {v x : Value} {IS IS' IX IX' : World → (Nat → Prop) → Prop} {A : AskN} {r : Ans}
set_option maxHeartbeats 3200000 in
set_option maxRecDepth 100000 in
theorem ask_add (hS : SideS v IS IS' A r) (hX : SideX x IX IX' A r) (hk : A.k = 0) {w : World} {F G : Nat → Prop} (h : Both IS IX F G w) (hp : ∀ w', Chg (fun k => F k ∨ G k) w w' → PairRow w' A.a A.n A.c A.L) (hpn : A.n ≤ 4000000) :
    Calls Tryd.prog 20 #[v, x, askV A] w (AskDone IS' IX' F G w) := by
  obtain ⟨w1, hw1, hb1, hbox⟩ := ask_box hS hX h
  have e0 : (A.k == 0) = true := by simp [hk]
  have H := Lib.hid (And.intro hS (And.intro hX (And.intro h hb1)))
  have HCS := Lib.hid (hS.add hk)
  have HCX := Lib.hid (hX.add hk)
  have hc0 : w1.cell? ⟨w.heap.size, 0, none⟩ = some (.int .u8 A.k) := cell_in (hbox _ (Chg.refl _ _)) rfl
  have hc1 : w1.cell? ⟨w.heap.size, 1, none⟩ = some (.int .u64 A.id.1) := cell_in (hbox _ (Chg.refl _ _)) rfl
  have hc2 : w1.cell? ⟨w.heap.size, 1 + 1, none⟩ = some (.int .u64 A.id.2) := cell_in (hbox _ (Chg.refl _ _)) rfl
  have hc3 : w1.cell? ⟨w.heap.size, 1 + 1 + 1, none⟩ = some (.slice A.a A.n A.c) := cell_in (hbox _ (Chg.refl _ _)) rfl
  have HT := Lib.hid (twinEntry (x := A.id.1) (y := A.id.2) (hp _ (Chg.of_below _ hb1)) hpn)
  have HBx := Lib.hid hbox
  have HP := Lib.hid (And.intro hp hpn)
  have HW := Lib.hid hw1
  unfold askCells at HW
  clear hbox hw1 hb1 h hS hX hk hp hpn
  unfold askV
  go_enter Tryd.func20, Tryd.ntmps20
  go_upto_region 1 with (fail)
  rw [← HW.out]
  go_wp2_with fail
  refine HT.out.mono ?_
  rintro e w2 ⟨tv, rfl, o2, b2⟩
  obtain ⟨g, cap, rfl, hBg, hg, _⟩ := o2.row
  have hl : A.L.length = A.n := (HP.out.1 _ (Chg.refl _ _)).1
  rw [hl] at o2
  obtain ⟨w3, hw3⟩ : ∃ w3, w3 = w2.alloc (.cells #[.int .u64 A.id.1, .int .u64 A.id.2, .slice (some ⟨g, 0, none⟩) A.n cap] 39) := ⟨_, rfl⟩
  have hb3 : Below w2.heap.size w2 w3 := by rw [hw3]; exact (Below.refl _ _).alloc (Nat.le_refl _) _
  have hn3 : w3.heap[w2.heap.size]? = some (.cells #[.int .u64 A.id.1, .int .u64 A.id.2, .slice (some ⟨g, 0, none⟩) A.n cap] 39 (0, 0)) := by rw [hw3]; exact heap_new _ _
  have hb13 : Below w1.heap.size w1 w3 := b2.trans (hb3.mono b2.size)
  have hb03 : Below w.heap.size w w3 := H.out.2.2.2.trans (hb13.mono H.out.2.2.2.size)
  have hFlt := fun k (hk : F k) => H.out.1.lt _ _ H.out.2.2.1.1 k hk
  have hGlt := fun k (hk : G k) => H.out.2.1.lt _ _ H.out.2.2.1.2.1 k hk
  have hs1 := H.out.2.2.2.size
  have hs2 := b2.size
  have hs3 := hb3.size
  have ht3 : TwinOf w3 w1.heap.size (.slice (some ⟨g, 0, none⟩) A.n cap) A.L := o2.chg (Chg.of_below (fun _ => False) hb3) fun _ _ => id
  have HG := Lib.hid (show ∀ w', Chg (fun k => F k ∨ G k) w3 w' → (w'.heap[w2.heap.size]? = some (.cells #[.int .u64 A.id.1, .int .u64 A.id.2, .slice (some ⟨g, 0, none⟩) A.n cap] 39 (0, 0)) ∧ w'.heap[w.heap.size]? = some (.cells (askCells A) 48 (0, 0))) ∧ TwinOf w' w1.heap.size (.slice (some ⟨g, 0, none⟩) A.n cap) A.L ∧ PairRow w' A.a A.n A.c A.L from fun w' hc => by
    refine ⟨⟨hc.keep hn3 fun hk => ?_, HBx.out _ ((Chg.of_below (fun k => F k ∨ G k) hb13).trans hc fun _ h _ => h)⟩, ht3.chg hc fun k hk hk' => ?_, HP.out.1 _ ((Chg.of_below (fun k => F k ∨ G k) hb03).trans hc fun _ h _ => h)⟩
    · rcases hk with hk | hk
      · have := hFlt _ hk; omega
      · have := hGlt _ hk; omega
    · have e' : g = k := by simpa [vblock] using hk
      rcases hk' with hk | hk
      · have := hFlt _ hk; omega
      · have := hGlt _ hk; omega)
  obtain ⟨X1, fw, hX1, hfw, hFc⟩ := classOf (fun w' => (w'.cell? ⟨w2.heap.size, 0, none⟩ = some (.int .u64 A.id.1) ∧ w'.cell? ⟨w2.heap.size, 1, none⟩ = some (.int .u64 A.id.2) ∧ w'.cell? ⟨w2.heap.size, 2, none⟩ = some (.slice (some ⟨g, 0, none⟩) A.n cap)) ∧ w'.cell? ⟨w.heap.size, 1, none⟩ = some (.int .u64 A.id.1) ∧ w'.cell? ⟨w.heap.size, 1 + 1, none⟩ = some (.int .u64 A.id.2) ∧ w'.cell? ⟨w.heap.size, 1 + 1 + 1, none⟩ = some (.slice A.a A.n A.c)) (w := w3.drew) (by
    have := (HG.out _ (Chg.drew _ w3)).1
    exact ⟨⟨cell_in this.1 rfl, cell_in this.1 rfl, cell_in this.1 rfl⟩, cell_in this.2 rfl, cell_in this.2 rfl, cell_in this.2 rfl⟩)
  have f1 := fun x => (hfw x).1.1
  have f2 := fun x => (hfw x).1.2.1
  have f3 := fun x => (hfw x).1.2.2
  have f4 := fun x => (hfw x).2.1
  have f5 := fun x => (hfw x).2.2.1
  have f6 := fun x => (hfw x).2.2.2
  have HFa := Lib.hid (show ∀ w', Chg (fun k => F k ∨ G k) w3 w' → ∃ x : X1, w' = fw x from fun w' hc => by
    have := (HG.out _ hc).1
    exact hFc w' ⟨⟨cell_in this.1 rfl, cell_in this.1 rfl, cell_in this.1 rfl⟩, cell_in this.2 rfl, cell_in this.2 rfl, cell_in this.2 rfl⟩)
  have hpr : PairRow w3.drew (some ⟨g, 0, none⟩) A.n cap A.L := by
    obtain ⟨g', cap', he, _, _, hr, _⟩ := ((HG.out _ (Chg.drew _ w3)).2.1).row
    rw [hl] at he hr
    cases he
    exact hr
  have HW3 := Lib.hid hw3
  have HB3 := Lib.hid (And.intro hb03 (And.intro hpr (And.intro hb13 (And.intro hBg (And.intro hg (And.intro hs2 hs3))))))
  clear hFc hfw hw3 hb3 hn3 hb13 hb03 hFlt hGlt hs1 hs2 hs3 ht3 o2 b2 hpr hBg hg hc1 hc2 hc3
  simp only [hl]
  go_upto_region 4 with (fail)
  rw [← HW3.out]
  refine wp_region_text ⟨[2, 6, 12], [13, 14], 12⟩ (fun w' => ∃ x : X1, w' = fw x) (by kernel_rfl) (by kernel_rfl) (HFa.out _ (Chg.drew _ w3)) ?_
  refine wpC_seg false (HFa.out _ (Chg.drew _ w3)) 2 0 _ _ (by rfl) (by rfl) ?_
  simp only [List.take_succ_cons, List.take_zero, List.drop_succ_cons, List.drop_zero, Bool.false_eq_true, if_false, Nat.zero_add, Nat.reduceAdd]
  repeat (go_big_quiet_step (fail))
  refine wpQuiet_nil ?_
  refine wpC_loud (by rfl) (by rfl) fun K hK => ?_
  go_wp2_with fail
  refine (HCS.out _ _ _ _ (ask_first H.out.1 H.out.2.2.1 (belowN HB3.out.1 1)) HB3.out.2.1).mono ?_
  rintro e w4 ⟨rfl, F', i4, f4', c4⟩
  have hch4 : Chg (fun k => F k ∨ G k) w3 w4 := (Chg.drew _ w3).trans (c4.mono fun k hk _ => .inl hk) fun _ h _ => h
  have HD := Lib.hid (And.intro i4 (And.intro f4' (And.intro c4 hch4)))
  refine hK _ _ (fun _ => HFa.out _ hch4) ?_
  clear hK i4 f4' c4 hch4
  refine wpC_seg false (HFa.out _ HD.out.2.2.2) 3 3 _ _ (by rfl) (by rfl) ?_
  simp only [List.take_succ_cons, List.take_zero, List.drop_succ_cons, List.drop_zero, Bool.false_eq_true, if_false, Nat.zero_add, Nat.reduceAdd]
  repeat (go_big_quiet_step (fail))
  refine wpQuiet_nil ?_
  refine wpC_loud (by rfl) (by rfl) fun K hK => ?_
  go_wp2_with fail
  refine (HCX.out _ _ _ _ (ask_mid H.out.1 H.out.2.1 H.out.2.2.1 (belowN HB3.out.1 1) HD.out.2.2.1 (Below.refl _ _)) (HG.out _ HD.out.2.2.2).2.2).mono ?_
  rintro e w5 ⟨rfl, G', i5, f5', c5⟩
  have hch5 : Chg (fun k => F k ∨ G k) w3 w5 := HD.out.2.2.2.trans (c5.mono fun k hk _ => .inr hk) fun _ h _ => h
  have HE := Lib.hid (And.intro hch5 (And.intro (both_step H.out.1 H.out.2.1 H.out.2.2.1 (belowN HB3.out.1 1) HD.out.2.1 HD.out.1 HD.out.2.2.1 (Below.refl _ _) f5' i5 c5) f5'))
  refine hK _ _ (fun _ => HFa.out _ hch5) ?_
  clear hK i5 f5' c5 hch5
  refine wpC_seg false (HFa.out _ HE.out.1) 5 7 _ _ (by rfl) (by rfl) ?_
  simp only [List.take_succ_cons, List.take_zero, List.drop_succ_cons, List.drop_zero, Bool.false_eq_true, if_false, Nat.zero_add, Nat.reduceAdd]
  repeat (go_big_quiet_step (fail))
  refine wpQuiet_nil ?_
  refine wpC_loud (by rfl) (by rfl) fun K hK => ?_
  go_wp2_with fail
  refine (leftEntry (HG.out _ HE.out.1).2.1 (HG.out _ HE.out.1).2.2 HP.out.2).mono ?_
  rintro e w6 ⟨rfl, b6⟩
  refine hK _ _ (fun h => absurd h (by decide)) ?_
  clear hK
  have hch6 := HE.out.1.trans (Chg.of_below (fun k => F k ∨ G k) b6) fun _ h _ => h
  have HL := Lib.hid (And.intro b6 hch6)
  clear b6 hch6
  refine wpC_segD 2 13 _ _ (by rfl) (by rfl) ?_
  simp only [List.take_succ_cons, List.take_zero, List.drop_succ_cons, List.drop_zero, if_true, Nat.zero_add, Nat.reduceAdd]
  repeat (go_big_quiet_step (fail))
  refine wpQuiet_nil ?_
  refine wpC_nil ?_
  clear f1 f2 f3 f4 f5 f6 hX1 HFa fw X1
  have hgr : ∃ cur, RowAt w6 g 59 cur ∧ cur.size = cap * 2 ∧ A.n + 1 ≤ cap := by
    obtain ⟨g', cap', cur, he, _, hr, h2, h3, _⟩ := (HG.out _ HL.out.2).2.1
    rw [(HP.out.1 _ (Chg.refl _ _)).1] at he h3
    cases he
    exact ⟨cur, hr, h2, h3⟩
  have HI0 := Lib.hid (show ∃ cur, RowAt w6 g 59 cur ∧ cur.size = cap * 2 ∧ A.n + 1 ≤ cap ∧ Chg (fun k => k = g) w6 w6 from by
    obtain ⟨cur, h1, h2, h3⟩ := hgr
    exact ⟨cur, h1, h2, h3, Chg.refl _ _⟩)
  have HQ := Lib.hid (show ∀ w', Chg (fun k => k = g) w6 w' → w'.cell? ⟨w2.heap.size, 2, none⟩ = some (.slice (some ⟨g, 0, none⟩) A.n cap) from fun w' hc => by
    refine cell_in (hc.keep ((HG.out _ HL.out.2).1.1) fun e => ?_) rfl
    have := HB3.out.2.2.2.2.1
    omega)
  clear hgr
  have hAn : A.n ≤ 4000000 := HP.out.2
  go_wp2_with fail
  go_loopw [9] (fun i wr => ∃ k : Nat, k ≤ A.n ∧ i = .int .i64 k ∧ Hid (∃ cur, RowAt wr g 59 cur ∧ cur.size = cap * 2 ∧ A.n + 1 ≤ cap ∧ Chg (fun k => k = g) w6 wr)) (fun i _ => A.n - (intOf i).toNat)
  case atStart => exact ⟨0, Nat.zero_le _, rfl, HI0⟩
  case round =>
    obtain ⟨k, hk, rfl, hI⟩ := hrel
    have q := HQ.out wr (by obtain ⟨_, _, _, _, h⟩ := hI.out; exact h)
    by_cases hlt : k < A.n
    · obtain ⟨cur, h1, h2, h3, h4⟩ := hI.out
      obtain ⟨u0, hu0⟩ : ∃ u0, cur[k * 2]? = some u0 := ⟨_, Array.getElem?_eq_getElem (by omega)⟩
      obtain ⟨u1, hu1⟩ : ∃ u1, cur[k * 2 + 1]? = some u1 := ⟨_, Array.getElem?_eq_getElem (by omega)⟩
      have c0 := h1.cell hu0
      have d0 := h1.free (i := k * 2) (by omega)
      obtain ⟨s1, hs1⟩ : ∃ s1 : ByteArray, s1 = ⟨#[115, 112, 111, 105, 108, 116]⟩ := ⟨_, rfl⟩
      have e1 := h1.setCell (k * 2) (.string ⟨#[115, 112, 111, 105, 108, 116]⟩)
      have r1 := h1.setRow (cs := cur.setIfInBounds (k * 2) (.string ⟨#[115, 112, 111, 105, 108, 116]⟩)) (by simp)
      rw [← e1] at r1
      have c1 := r1.cell (i := k * 2 + 1) (v := u1) (by rw [Array.getElem?_setIfInBounds]; simp; exact hu1)
      have d1 := r1.free (i := k * 2 + 1) (by simp; omega)
      have e2 := r1.setCell (k * 2 + 1) (.string ⟨#[]⟩)
      have r2 := r1.setRow (cs := (cur.setIfInBounds (k * 2) (.string ⟨#[115, 112, 111, 105, 108, 116]⟩)).setIfInBounds (k * 2 + 1) (.string ⟨#[]⟩)) (by simp)
      rw [← e2] at r2
      obtain ⟨w7, hw7⟩ : ∃ w7, w7 = (wr.setCell ⟨g, k * 2, none⟩ (.string ⟨#[115, 112, 111, 105, 108, 116]⟩)).setCell ⟨g, k * 2 + 1, none⟩ (.string ⟨#[]⟩) := ⟨_, rfl⟩
      have HN := Lib.hid (show ∃ cur, RowAt w7 g 59 cur ∧ cur.size = cap * 2 ∧ A.n + 1 ≤ cap ∧ Chg (fun k => k = g) w6 w7 from by
        rw [hw7]
        exact ⟨_, r2, by simpa using h2, h3, (h4.trans (Chg.setCell (fun k => k = g) _ _ _ rfl) fun _ h _ => h).trans (Chg.setCell (fun k => k = g) _ _ _ rfl) fun _ h _ => h⟩)
      have HW7 := Lib.hid hw7
      have HK := Lib.hid hlt
      clear h1 h2 h3 h4 hu0 hu1 e1 r1 e2 r2 hw7 hI hs1 s1
      go_wp2_with fail
      rw [← HW7.out]
      go_roundw
      case rel => exact ⟨k + 1, HK.out, by go_num, HN⟩
      case measure => have := HK.out; simp [intOf]; omega
    · obtain rfl : A.n = k := by omega
      have HFin := Lib.hid (show ∃ F' G', Both IS' IX' F' G' wr ∧ Fresh w F F' ∧ Fresh w G G' ∧ Chg (fun k => F k ∨ G k) w wr from by
        obtain ⟨_, _, _, _, hc⟩ := hI.out
        obtain ⟨⟨q1, q2, q3⟩, q4, q5, q6⟩ := HE.out.2.1
        obtain ⟨_, _, hb13, hBg, hg, hs2, hs3⟩ := HB3.out
        have hb01 := H.out.2.2.2.size
        have hFlt := fun k (hk : F k) => H.out.1.lt _ _ H.out.2.2.1.1 k hk
        have hGlt := fun k (hk : G k) => H.out.2.1.lt _ _ H.out.2.2.1.2.1 k hk
        have hs34 := HD.out.2.2.1.size
        have hF' : ¬ F' g := fun hk => by
          rcases HD.out.2.1 g hk with h' | h'
          · have := hFlt g h'; omega
          · have h'' : w3.heap.size ≤ g := h'
            omega
        have hG' : ¬ G' g := fun hk => by
          rcases HE.out.2.2 g hk with h' | h'
          · have := hGlt g h'; omega
          · have h'' : w3.heap.size ≤ w4.heap.size := hs34
            omega
        have hcc : Chg (fun k => F k ∨ G k) w wr := (q6.trans (Chg.of_below (fun k => F k ∨ G k) HL.out.1) fun _ h _ => h).trans hc fun k hk hlt => by
          have : k = g := hk
          omega
        refine ⟨F', G', ⟨?_, ?_, q3⟩, q4, q5, hcc⟩
        · exact H.out.1.chg' _ _ _ _ (H.out.1.chg' _ _ _ (fun _ => False) q1 (Chg.of_below _ HL.out.1) fun _ _ => id) hc fun k hk e => hF' (by have e' : k = g := e; rw [← e']; exact hk)
        · exact H.out.2.1.chg' _ _ _ _ (H.out.2.1.chg' _ _ _ (fun _ => False) q2 (Chg.of_below _ HL.out.1) fun _ _ => id) hc fun k hk e => hG' (by have e' : k = g := e; rw [← e']; exact hk))
      clear hI
      go_wp2_with fail
      go_ret
      exact ⟨rfl, HFin.out⟩
theorem asks_any (hS : SideS v IS IS' A r) (hX : SideX x IX IX' A r) {w : World} {F G : Nat → Prop} (h : Both IS IX F G w) (hp : ∀ w', Chg (fun k => F k ∨ G k) w w' → PairRow w' A.a A.n A.c A.L) (hpn : A.n ≤ 4000000) :
    Calls Tryd.prog 20 #[v, x, askV A] w (AskDone IS' IX' F G w) := by
  by_cases h0 : A.k = 0
  · exact ask_add hS hX h0 h hp hpn
  · by_cases h1 : A.k = 1
    · exact ask_next hS hX h1 h
    · by_cases h2 : A.k = 2
      · exact ask_del hS hX h2 h
      · by_cases h3 : A.k = 3
        · exact ask_setLast hS hX h3 h
        · by_cases h4 : A.k = 4
          · exact ask_range hS hX h4 h
          · exact ask_trim hS hX h0 h1 h2 h3 h4 h
end
end Go.Proofs.YtbjpfnafhhbmaaaDoor.Sad

/- The law's stands: both say the same. -/
namespace Go.Proofs.YtbjpfnafhhbmaaaDoor.Sad
open Go.Proofs.YtbjpfnafhhbmaaaDoor
set_option linter.unusedVariables false
set_option linter.unusedSimpArgs false
open Go.RowKit RT Go.Shelf
/-- How one side stands. -/
structure Said (fL fM fC fR : Nat) (v : Value) (J : World → Prop) (n : Nat) (l : Nat × Nat) (c : Int) (E : List Ent) : Prop where
  below : ∀ w w', J w → Below w.heap.size w w' → J w'
  len : ∀ w, J w → Calls Tryd.prog fL #[v] w fun e w' => e = .returned (.int .i64 n) ∧ Below w.heap.size w w'
  last : ∀ w, J w → Calls Tryd.prog fM #[v] w fun e w' => e = .returned (.agg #[.int .u64 l.1, .int .u64 l.2]) ∧ Below w.heap.size w w'
  charge : ∀ w, J w → Calls Tryd.prog fC #[v] w fun e w' => e = .returned (.int .i64 c) ∧ Below w.heap.size w w'
  range : ∀ w, J w → Calls Tryd.prog fR #[v, .agg #[.int .u64 (0 : Nat), .int .u64 (0 : Nat)], .agg #[.int .u64 (18446744073709551615 : Nat), .int .u64 (18446744073709551615 : Nat)], .int .i64 1099511627776] w fun e w' => ∃ a c, e = .returned (.slice a E.length c) ∧ EntRow w' a E.length c E ∧ Below w.heap.size w w'
abbrev SaidS := Said 22 24 31 15
abbrev SaidX := Said 49 50 51 47
set_option maxHeartbeats 3200000 in
set_option maxRecDepth 100000 in
theorem stands_any {v x : Value} {JS JX : World → Prop} {n : Nat} {l : Nat × Nat} {c : Int} {E : List Ent} (hS : SaidS v JS n l c E) (hX : SaidX x JX n l c E) (hE : E.length ≤ 4000000000000) {w : World} (h1 : JS w) (h2 : JX w) :
    Calls Tryd.prog 21 #[v, x] w fun e w' => e = .returned (.bool true) ∧ Below w.heap.size w w' := by
  have H := Lib.hid (And.intro hS (And.intro hX (And.intro h1 (And.intro h2 hE))))
  have HT := Lib.hid top_any
  have HJ := Lib.hid (show ∀ w', Below w.heap.size w w' → JS w' ∧ JX w' from fun w' hb => ⟨hS.below _ _ h1 hb, hX.below _ _ h2 hb⟩)
  clear hS hX h1 h2 hE
  go_enter Tryd.func21, Tryd.ntmps21
  go_wp2_with fail
  refine (H.out.1.len _ H.out.2.2.1).mono ?_
  rintro e w1 ⟨rfl, b1⟩
  have HB1 := Lib.hid b1
  clear b1
  go_wp2_with fail
  refine (H.out.2.1.len _ (HJ.out _ HB1.out).2).mono ?_
  rintro e w2 ⟨rfl, b2⟩
  have HB2 := Lib.hid (HB1.out.trans (b2.mono HB1.out.size))
  clear b2
  go_wp2_with fail
  refine (H.out.1.last _ (HJ.out _ HB2.out).1).mono ?_
  rintro e w3 ⟨rfl, b3⟩
  have HB3 := Lib.hid (HB2.out.trans (b3.mono HB2.out.size))
  clear b3
  go_wp2_with fail
  refine (H.out.2.1.last _ (HJ.out _ HB3.out).2).mono ?_
  rintro e w4 ⟨rfl, b4⟩
  have HB4 := Lib.hid (HB3.out.trans (b4.mono HB3.out.size))
  clear b4
  go_wp2_with fail
  refine (H.out.1.charge _ (HJ.out _ HB4.out).1).mono ?_
  rintro e w5 ⟨rfl, b5⟩
  have HB5 := Lib.hid (HB4.out.trans (b5.mono HB4.out.size))
  clear b5
  go_wp2_with fail
  refine (H.out.2.1.charge _ (HJ.out _ HB5.out).2).mono ?_
  rintro e w6 ⟨rfl, b6⟩
  have HB6 := Lib.hid (HB5.out.trans (b6.mono HB5.out.size))
  clear b6
  go_wp2_with fail
  refine (HT.out _).mono ?_
  rintro e w7 ⟨rfl, b7⟩
  have HB7 := Lib.hid (HB6.out.trans (b7.mono HB6.out.size))
  clear b7
  go_wp2_with fail
  refine (H.out.1.range _ (HJ.out _ HB7.out).1).mono ?_
  rintro e w8 ⟨a, ca, rfl, r8, b8⟩
  have HB8 := Lib.hid (HB7.out.trans (b8.mono HB7.out.size))
  have HR8 := Lib.hid r8
  clear b8 r8
  go_wp2_with fail
  refine (HT.out _).mono ?_
  rintro e w9 ⟨rfl, b9⟩
  have HB9 := Lib.hid (HB8.out.trans (b9.mono HB8.out.size))
  have HR9 := Lib.hid (HR8.out.chg b9)
  clear b9
  go_wp2_with fail
  refine (H.out.2.1.range _ (HJ.out _ HB9.out).2).mono ?_
  rintro e w10 ⟨a', ca', rfl, r10, b10⟩
  have HB10 := Lib.hid (HB9.out.trans (b10.mono HB9.out.size))
  have HS := Lib.hid (sameEntries (HR9.out.chg b10) r10 H.out.2.2.2.2)
  clear b10 r10
  go_wp2_with fail
  refine HS.out.mono ?_
  rintro e w11 ⟨rb, rfl, hrb, b11⟩
  obtain rfl : rb = true := hrb.2 trivial
  have HB11 := Lib.hid (HB10.out.trans (b11.mono HB10.out.size))
  clear b11 hrb
  go_wp2_with fail
  go_ret
  exact ⟨rfl, HB11.out⟩
end Go.Proofs.YtbjpfnafhhbmaaaDoor.Sad
