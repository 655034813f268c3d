/- Regions that draw their order: one walk in the text's order serves every order, where the operations that write (and calls) stand in one line, and the others read only what stays. -/
import Derived.Still
import Derived.Deep.Quiet
import Derived.BigQuiet
import Derived.Deep.Draws
namespace Go.Proofs.YtcoepekoacpgnaaDoor
set_option linter.unusedVariables false
set_option linter.unusedSimpArgs false

/-- Operation i waits for operation k, by whatever road. -/
inductive Dep (md : Region.Mode) (ops : Array Oper) (k : Nat) : Nat → Prop
  | direct {i : Nat} {o : Oper} {e : Edge} (ho : ops[i]? = some o) (he : e ∈ o.after) (hb : Region.binds md e = true) (hk : e.on = k) : Dep md ops k i
  | trans {i : Nat} {o : Oper} {e : Edge} (ho : ops[i]? = some o) (he : e ∈ o.after) (hb : Region.binds md e = true) (hd : Dep md ops k e.on) : Dep md ops k i

def depB (md : Region.Mode) (ops : Array Oper) (k : Nat) : Nat → Nat → Bool
  | 0, _ => false
  | fuel + 1, i => match ops[i]? with
    | some o => o.after.any fun e => Region.binds md e && (e.on == k || (decide (k < e.on) && depB md ops k fuel e.on))
    | none => false
theorem depB_spec {md : Region.Mode} {ops : Array Oper} {k : Nat} : ∀ (fuel i : Nat), depB md ops k fuel i = true → Dep md ops k i
  | 0, i, h => by simp [depB] at h
  | fuel + 1, i, h => by
    unfold depB at h
    split at h
    · rename_i o ho
      obtain ⟨e, he, hb⟩ := Array.any_eq_true'.1 h
      simp only [Bool.and_eq_true, Bool.or_eq_true, beq_iff_eq] at hb
      obtain ⟨hb1, hb2⟩ := hb
      rcases hb2 with hb2 | hb2
      · exact .direct ho he hb1 hb2
      · exact .trans ho he hb1 (depB_spec fuel _ hb2.2)
    · cases h

section
variable {P : Program} {ops : Array Oper} {md : Region.Mode}

theorem apart_symm {x y : Oper} (h : x.apart ops y = true) : y.apart ops x = true := by
  obtain ⟨h1, h2, h3⟩ := Oper.apart_spec h
  unfold Oper.apart
  cases hx : x.dst <;> cases hy : y.dst <;> simp
  · exact h3 _ hy
  · exact h1 _ hx
  · exact ⟨⟨h3 _ hy, fun e => h2 _ hx (by rw [hy, e])⟩, h1 _ hx⟩
/-- What waits is listed behind what it waits for. -/
def Closed (md : Region.Mode) (ops : Array Oper) (listed : Array Bool) : Prop :=
  ∀ j o, ops[j]? = some o → listed.getD j false = true → ∀ e ∈ o.after, Region.binds md e = true → listed.getD e.on false = true
theorem Closed.set {listed : Array Bool} {i : Nat} (h : Closed md ops listed) (hi : i ∈ Region.ready md ops listed) : Closed md ops (listed.setIfInBounds i true) := by
  obtain ⟨_, oi, hoi, hall⟩ := mem_ready.1 hi
  intro j oj hj hl e he hb
  by_cases hij : i = j
  · subst hij
    have : oj = oi := Option.some.inj (hj.symm.trans hoi)
    subst this
    exact getD_set_true (hall e he hb)
  · rw [getD_set_ne false hij] at hl
    exact getD_set_true (h j oj hj hl e he hb)
theorem Closed.dep {listed : Array Bool} (h : Closed md ops listed) {k i : Nat} (hk : listed.getD k false = false) (hd : Dep md ops k i) :
    listed.getD i false = false ∧ i ∉ Region.ready md ops listed := by
  induction hd with
  | direct ho he hb hek =>
    subst hek
    constructor
    · cases hl : listed.getD _ false
      · rfl
      · rw [h _ _ ho hl _ he hb] at hk; cases hk
    · intro hr
      obtain ⟨_, o', ho', hall⟩ := mem_ready.1 hr
      cases Option.some.inj (ho.symm.trans ho')
      rw [hall _ he hb] at hk; cases hk
  | trans ho he hb _ ih =>
    constructor
    · cases hl : listed.getD _ false
      · rfl
      · rw [h _ _ ho hl _ he hb] at ih; cases ih.1
    · intro hr
      obtain ⟨_, o', ho', hall⟩ := mem_ready.1 hr
      cases Option.some.inj (ho.symm.trans ho')
      rw [hall _ he hb] at ih; cases ih.1

/-- One operation hands back the value and leaves the world. -/
def calmAt (P : Program) (o : Oper) (a : Act) (v : Value) (w : World) : Prop :=
  (execOp a.eval o).run P w = .ok (.value v) w ∨ ((execOp a.eval o).run P w = .ok .skip w ∧ v = undef)
theorem calmAt_det {o : Oper} {a : Act} {v v' : Value} {w : World} (h : calmAt P o a v w) (h' : calmAt P o a v' w) : v = v' := by
  rcases h with h | ⟨h, rfl⟩ <;> rcases h' with h' | ⟨h', rfl⟩ <;> rw [h] at h' <;> cases h' <;> rfl

def Calm (P : Program) (ops : Array Oper) (C : World → Prop) (o : Oper) (v : Value) (a : Act) : Prop :=
  (Region.wanted o (yielded ops a.tmps) = true ∧ ∀ w, C w → calmAt P o a v w) ∨ (Region.wanted o (yielded ops a.tmps) = false ∧ v = undef)

variable {C : World → Prop}
theorem Calm.of_same {o : Oper} {v : Value} {a a' : Act} (hy : Calm P ops C o v a) (he : execOp a'.eval o = execOp a.eval o)
    (hw : Region.wanted o (yielded ops a'.tmps) = Region.wanted o (yielded ops a.tmps)) : Calm P ops C o v a' := by
  unfold Calm calmAt at *
  rw [he, hw]
  exact hy
theorem Calm.det {o : Oper} {v v' : Value} {a : Act} {w : World} (hC : C w) (h : Calm P ops C o v a) (h' : Calm P ops C o v' a) : v = v' := by
  rcases h with ⟨h1, h⟩ | ⟨h1, rfl⟩ <;> rcases h' with ⟨h2, h'⟩ | ⟨h2, rfl⟩
  · exact calmAt_det (h w hC) (h' w hC)
  · rw [h1] at h2; cases h2
  · rw [h1] at h2; cases h2
  · rfl

def QF : Exit → Act → World → Prop := fun _ _ _ => False

/-- An operation whose run is followed as it stands. -/
def loudOp (P : Program) (ops : Array Oper) (o : Oper) (K : Act → World → Prop) (a : Act) (w : World) : Prop :=
  if Region.wanted o (yielded ops a.tmps) then o.wp P a w K QF else K (a.put o.dst undef) w
theorem loudOp_mono {o : Oper} {K K' : Act → World → Prop} {a : Act} {w : World} (h : ∀ a w, K a w → K' a w) (hh : loudOp P ops o K a w) : loudOp P ops o K' a w := by
  unfold loudOp at *
  split
  · rename_i hw; simp only [hw, if_true] at hh; exact Oper.wp_mono h hh
  · rename_i hw; simp only [hw] at hh; exact h _ _ hh

/-- There is an end to it. -/
theorem loudOp_some {o : Oper} {K : Act → World → Prop} {a : Act} {w : World} (h : loudOp P ops o K a w) : ∃ ds u w', K (({ a with defers := ds } : Act).put o.dst u) w' := by
  unfold loudOp at h
  split at h
  · unfold Oper.wp at h
    generalize (execOp a.eval o).run P w = r at h
    cases r with
    | ok n w' =>
      cases n <;> simp only [Oper.upon] at h
      case value u => exact ⟨a.defers, u, w', h⟩
      case skip => exact ⟨a.defers, undef, w', h⟩
      case defer d => exact ⟨_, undef, w', h⟩
      case enter f args =>
        obtain ⟨e, w'', _, hR, _⟩ := h []
        cases e with
        | returned v => exact ⟨a.defers, v, w'', hR⟩
        | panicked c => exact hR.elim
        | outgrown => obtain ⟨_, _, hR⟩ := hR; exact hR.elim
      case row row args =>
        obtain ⟨v, w'', hR, _⟩ := h default []
        exact ⟨a.defers, v, w'', hR⟩
    | halt x w' => cases x <;> simp only [Oper.upon, QF] at h
  · exact ⟨a.defers, undef, w, h⟩

theorem loudOp_pull {oi oj : Oper} {v : Value} (hap : oi.apart ops oj = true) (hsj : ∀ cs b, oj.op ≠ .select cs b) {K : Act → World → Prop} {a : Act} {w : World}
    (h : loudOp P ops oj (fun a' w' => K (a'.put oi.dst v) w') a w) : loudOp P ops oj K (a.put oi.dst v) w := by
  obtain ⟨h1, h2, h3⟩ := Oper.apart_spec hap
  unfold loudOp at *
  rw [wanted_put oj a oi.dst v h1]
  split
  · rename_i hw
    simp only [hw, if_true] at h
    unfold Oper.wp at *
    rw [execOp_put oj hsj a oi.dst v h1]
    generalize (execOp a.eval oj).run P w = r at *
    cases r with
    | ok n w' =>
      cases n <;> simp only [Oper.upon] at h ⊢
      case value u => rw [Act.put_comm a v u h2]; exact h
      case skip => rw [Act.put_comm a v undef h2]; exact h
      case defer d => rw [Act.put_defers, Act.put_comm _ v undef h2]; exact h
      case enter f args =>
        refine Calls.mono h fun e w'' he => ?_
        cases e with
        | returned u => show K ((a.put oi.dst v).put oj.dst u) w''; rw [Act.put_comm a v u h2]; exact he
        | panicked c => exact he
        | outgrown => exact he
      case row row args => exact Rows.mono h fun u w'' he => by rw [Act.put_comm a v u h2]; exact he
    | halt x w' => cases x <;> simp only [Oper.upon] at h ⊢ <;> exact h
  · rename_i hw
    simp only [hw] at h
    rw [Act.put_comm a v undef h2]; exact h
theorem loudOp_push {oi oj : Oper} {v : Value} (hap : oi.apart ops oj = true) (hsj : ∀ cs b, oj.op ≠ .select cs b) {K : Act → World → Prop} {a : Act} {w : World}
    (h : loudOp P ops oj K (a.put oi.dst v) w) : loudOp P ops oj (fun a' w' => K (a'.put oi.dst v) w') a w := by
  obtain ⟨h1, h2, h3⟩ := Oper.apart_spec hap
  unfold loudOp at *
  rw [wanted_put oj a oi.dst v h1] at h
  split
  · rename_i hw
    simp only [hw, if_true] at h
    unfold Oper.wp at *
    rw [execOp_put oj hsj a oi.dst v h1] at h
    generalize (execOp a.eval oj).run P w = r at *
    cases r with
    | ok n w' =>
      cases n <;> simp only [Oper.upon] at h ⊢
      case value u => rw [← Act.put_comm a v u h2]; exact h
      case skip => rw [← Act.put_comm a v undef h2]; exact h
      case defer d => rw [← Act.put_comm _ v undef h2, ← Act.put_defers]; exact h
      case enter f args =>
        refine Calls.mono h fun e w'' he => ?_
        cases e with
        | returned u => show K ((a.put oj.dst u).put oi.dst v) w''; rw [← Act.put_comm a v u h2]; exact he
        | panicked c => exact he
        | outgrown => exact he
      case row row args => exact Rows.mono h fun u w'' he => by rw [← Act.put_comm a v u h2]; exact he
    | halt x w' => cases x <;> simp only [Oper.upon] at h ⊢ <;> exact h
  · rename_i hw
    simp only [hw] at h
    rw [← Act.put_comm a v undef h2]; exact h

/-- What operation j does not look at, it is calm without. -/
theorem Calm.put {o : Oper} {v : Value} {a : Act} (hs : ∀ cs b, o.op ≠ .select cs b) (hy : Calm P ops C o v a) {d : Option Tmp} (h : ∀ t, d = some t → t ∉ o.looksAt ops) (ds : List Deferred) (u : Value) :
    Calm P ops C o v (({ a with defers := ds } : Act).put d u) :=
  hy.of_same ((execOp_put o hs { a with defers := ds } d u h).trans rfl) ((wanted_put o { a with defers := ds } d u h).trans rfl)
theorem Calm.unput {o : Oper} {v : Value} {a : Act} (hs : ∀ cs b, o.op ≠ .select cs b) {d : Option Tmp} (h : ∀ t, d = some t → t ∉ o.looksAt ops) {ds : List Deferred} {u : Value}
    (hy : Calm P ops C o v (({ a with defers := ds } : Act).put d u)) : Calm P ops C o v a :=
  hy.of_same ((execOp_put o hs { a with defers := ds } d u h).trans rfl).symm ((wanted_put o { a with defers := ds } d u h).trans rfl).symm

/-! The plan of a region: L: the operations that are followed as they stand; D: those that are calm in every world; the others are calm in the class C, which holds till operation m. -/
structure Plan where
  L : List Nat
  D : List Nat
  m : Nat
def Plan.cls (p : Plan) (C : World → Prop) (i : Nat) : World → Prop := if p.D.contains i then fun _ => True else C
def stepC (P : Program) (ops : Array Oper) (p : Plan) (C : World → Prop) (i : Nat) (K : Act → World → Prop) (a : Act) (w : World) : Prop :=
  match ops[i]? with
  | none => K a w
  | some o => if p.L.contains i then loudOp P ops o K a w else ∃ v, Calm P ops (p.cls C i) o v a ∧ K (a.put o.dst v) w
theorem stepC_mono {p : Plan} {i : Nat} {K K' : Act → World → Prop} {a : Act} {w : World} (h : ∀ a w, K a w → K' a w) (hh : stepC P ops p C i K a w) : stepC P ops p C i K' a w := by
  unfold stepC at *
  split
  · simp_all
  · rename_i o ho
    simp only [ho] at hh
    split
    · rename_i hl; simp only [hl, if_true] at hh; exact loudOp_mono h hh
    · rename_i hl; simp only [hl] at hh; obtain ⟨v, h1, h2⟩ := hh; exact ⟨v, h1, h _ _ h2⟩

def wpAnyC (P : Program) (md : Region.Mode) (ops : Array Oper) (p : Plan) (C : World → Prop) (Q : Act → World → Prop) : Nat → Array Bool → Act → World → Prop
  | 0, listed, a, w => (listed.getD p.m false = false → C w) ∧ Region.ready md ops listed = [] ∧ Q a w
  | fuel + 1, listed, a, w => (listed.getD p.m false = false → C w) ∧ (Region.ready md ops listed = [] → Q a w) ∧
    ∀ i ∈ Region.ready md ops listed, stepC P ops p C i (wpAnyC P md ops p C Q fuel (listed.setIfInBounds i true)) a w

/-- In every state what is not loud and not calm everywhere comes before m. -/
def Plan.before (p : Plan) (md : Region.Mode) (ops : Array Oper) : Prop := ∀ i, i ∉ p.L → i ∉ p.D → i < ops.size → (ops.size ≤ p.m ∨ (i ≠ p.m ∧ Dep md ops i p.m))

theorem cls_holds {p : Plan} {listed : Array Bool} {i : Nat} {w : World} (hp : p.before md ops) (hc : Closed md ops listed) (hsz : listed.size = ops.size) (hl : i ∉ p.L) (hi : i < ops.size)
    (hun : listed.getD i false = false) (h : listed.getD p.m false = false → C w) : p.cls C i w := by
  unfold Plan.cls
  split
  · trivial
  · rename_i hd
    refine h ?_
    rcases hp i hl (by simpa using hd) hi with h1 | ⟨_, h1⟩
    · simp [Array.getElem?_eq_none (by omega : listed.size ≤ p.m)]
    · exact (hc.dep hun h1).1

theorem unl {listed : Array Bool} {i : Nat} (h : listed.getD i true = false) : listed.getD i false = false := by
  rcases Nat.lt_or_ge i listed.size with h' | h'
  · simp [h'] at h ⊢; exact h
  · simp [Array.getElem?_eq_none h'] at h

variable {Q : Act → World → Prop} {p : Plan}
theorem wpAnyC_C {fuel : Nat} {listed : Array Bool} {a : Act} {w : World} (h : wpAnyC P md ops p C Q fuel listed a w) : listed.getD p.m false = false → C w := by
  cases fuel with
  | zero => exact h.1
  | succ f => exact h.1

/-- A calm operation may be taken first. -/
theorem wpAnyC_first (hsel : ∀ (j : Nat) (o : Oper) cs b, ops[j]? = some o → o.op ≠ .select cs b) (hp : p.before md ops) {i : Nat} {oi : Oper} {v : Value} (hi : ops[i]? = some oi) (hiL : i ∉ p.L) :
    ∀ (fuel : Nat) (listed : Array Bool) (a : Act) (w : World), Closed md ops listed → listed.size = ops.size →
      (∀ j oj, ops[j]? = some oj → j ≠ i → listed.getD j true = false → (∀ e ∈ oj.after, Region.binds md e = true → e.on ≠ i) → oi.apart ops oj = true) →
      i ∈ Region.ready md ops listed → Calm P ops (p.cls C i) oi v a → (listed.getD p.m false = false → C w) → i ≠ p.m →
      wpAnyC P md ops p C Q fuel (listed.setIfInBounds i true) (a.put oi.dst v) w → wpAnyC P md ops p C Q (fuel + 1) listed a w := by
  have hsi := fun cs b => hsel i oi cs b hi
  have hilt : i < ops.size := (Array.getElem?_eq_some_iff.1 hi).1
  intro fuel
  induction fuel with
  | zero =>
    intro listed a w hcl hsz _ hr hy hC him H
    refine ⟨hC, fun h => (by rw [h] at hr; cases hr), fun j hj => ?_⟩
    by_cases hji : j = i
    · subst hji
      unfold stepC
      simp only [hi, show p.L.contains j = false by simpa using hiL, Bool.false_eq_true, if_false]
      exact ⟨v, hy, H⟩
    · have := ready_mono hj hji
      rw [H.2.1] at this
      cases this
  | succ fuel ih =>
    intro listed a w hcl hsz hfree hr hy hC him H
    refine ⟨hC, fun h => (by rw [h] at hr; cases hr), fun j hj => ?_⟩
    by_cases hji : j = i
    · subst hji
      unfold stepC
      simp only [hi, show p.L.contains j = false by simpa using hiL, Bool.false_eq_true, if_false]
      exact ⟨v, hy, H⟩
    · have h1 := H.2.2 j (ready_mono hj hji)
      obtain ⟨hjun, oj, hoj, hall⟩ := mem_ready.1 hj
      have hjlt : j < ops.size := (Array.getElem?_eq_some_iff.1 hoj).1
      have hiun : listed.getD i true = false := (mem_ready.1 hr).1
      have hnot : ∀ e ∈ oj.after, Region.binds md e = true → e.on ≠ i := fun e he hb heq => by
        have h1 := hall e he hb
        rw [heq, unl hiun] at h1; cases h1
      have hap := hfree j oj hoj hji hjun hnot
      obtain ⟨q1, q2, q3⟩ := Oper.apart_spec hap
      have hsj := fun cs b => hsel j oj cs b hoj
      have hcl' := hcl.set hj
      have hfree' : ∀ k ok, ops[k]? = some ok → k ≠ i → (listed.setIfInBounds j true).getD k true = false →
          (∀ e ∈ ok.after, Region.binds md e = true → e.on ≠ i) → oi.apart ops ok = true := fun k ok hk hki hun hno => by
        refine hfree k ok hk hki ?_ hno
        by_cases hjk : j = k
        · subst hjk; exact hjun
        · rw [getD_set_ne true hjk] at hun; exact hun
      have next : ∀ a' w', Calm P ops (p.cls C i) oi v a' → wpAnyC P md ops p C Q fuel ((listed.setIfInBounds i true).setIfInBounds j true) (a'.put oi.dst v) w' →
          wpAnyC P md ops p C Q (fuel + 1) (listed.setIfInBounds j true) a' w' := fun a' w' hy' h' => by
        rw [Array.setIfInBounds_comm _ _ (Ne.symm hji)] at h'
        refine ih _ a' w' hcl' (by simp [hsz]) hfree' (ready_mono hr (Ne.symm hji)) hy' ?_ him h'
        intro hm
        exact wpAnyC_C h' (by rw [getD_set_ne false him]; exact hm)
      unfold stepC at h1 ⊢
      simp only [hoj] at h1 ⊢
      split
      · rename_i hl
        simp only [hl, if_true] at h1
        have h2 := loudOp_push hap hsj h1
        have key : ∀ (K : Act → World → Prop), loudOp P ops oj K a w → loudOp P ops oj (fun a' w' => K a' w' ∧ Calm P ops (p.cls C i) oi v a') a w := fun K hK => by
          unfold loudOp at hK ⊢
          split
          · rename_i hw
            simp only [hw, if_true] at hK
            unfold Oper.wp at hK ⊢
            generalize (execOp a.eval oj).run P w = r at *
            cases r with
            | ok n w' =>
              cases n <;> simp only [Oper.upon] at hK ⊢
              case value u => exact ⟨hK, hy.put hsi q3 a.defers u⟩
              case skip => exact ⟨hK, hy.put hsi q3 a.defers _⟩
              case defer d => exact ⟨hK, hy.put hsi q3 _ _⟩
              case enter f args =>
                refine Calls.mono hK fun e w'' he => ?_
                cases e with
                | returned u => exact ⟨he, hy.put hsi q3 a.defers u⟩
                | panicked c => exact he
                | outgrown => exact he
              case row row args => exact Rows.mono hK fun u w'' he => ⟨he, hy.put hsi q3 a.defers u⟩
            | halt x w' => cases x <;> simp only [Oper.upon] at hK ⊢ <;> exact hK
          · rename_i hw
            simp only [hw] at hK
            exact ⟨hK, hy.put hsi q3 a.defers _⟩
        exact loudOp_mono (fun a' w' h3 => next a' w' h3.2 h3.1) (key _ h2)
      · rename_i hl
        simp only [hl] at h1
        obtain ⟨u, hu, hK⟩ := h1
        refine ⟨u, ?_, next _ w (hy.put hsi q3 a.defers u) ?_⟩
        · exact Calm.unput hsj (ds := a.defers) q1 hu
        · rw [← Act.put_comm a v u q2]; exact hK

/-- An operation that is followed as it stands may be taken first, if all others of its kind wait for it. -/
theorem wpAnyC_loud (hsel : ∀ (j : Nat) (o : Oper) cs b, ops[j]? = some o → o.op ≠ .select cs b) (hp : p.before md ops) (hmL : p.m < ops.size → p.m ∈ p.L) {k : Nat} {ok : Oper} (hk : ops[k]? = some ok) (hkL : k ∈ p.L) :
    ∀ (fuel : Nat) (listed : Array Bool) (a : Act) (w : World), Closed md ops listed → listed.size = ops.size →
      (∀ j oj, ops[j]? = some oj → j ≠ k → listed.getD j true = false → (∀ e ∈ oj.after, Region.binds md e = true → e.on ≠ k) → ok.apart ops oj = true) →
      (∀ j, j ∈ p.L → j ≠ k → j < ops.size → listed.getD j true = false → Dep md ops k j) →
      k ∈ Region.ready md ops listed → (listed.getD p.m false = false → C w) →
      stepC P ops p C k (wpAnyC P md ops p C Q fuel (listed.setIfInBounds k true)) a w → wpAnyC P md ops p C Q (fuel + 1) listed a w := by
  have hsk := fun cs b => hsel k ok cs b hk
  have hklt : k < ops.size := (Array.getElem?_eq_some_iff.1 hk).1
  have hkc : p.L.contains k = true := by simpa using hkL
  intro fuel
  induction fuel with
  | zero =>
    intro listed a w hcl hsz hfree hord hr hC H
    refine ⟨hC, fun h => (by rw [h] at hr; cases hr), fun i hi => ?_⟩
    by_cases hik : i = k
    · subst hik; exact H
    · exfalso
      unfold stepC at H
      simp only [hk, hkc, if_true] at H
      obtain ⟨ds, u, w', hK⟩ := loudOp_some H
      have := ready_mono hi hik
      rw [hK.2.1] at this
      cases this
  | succ f ih =>
    intro listed a w hcl hsz hfree hord hr hC H
    refine ⟨hC, fun h => (by rw [h] at hr; cases hr), fun i hi => ?_⟩
    by_cases hik : i = k
    · subst hik; exact H
    · obtain ⟨hiun, oi, hoi, hall⟩ := mem_ready.1 hi
      have hkun := (mem_ready.1 hr).1
      have hilt : i < ops.size := (Array.getElem?_eq_some_iff.1 hoi).1
      have hiL : i ∉ p.L := fun hL => (hcl.dep (unl hkun) (hord i hL hik hilt hiun)).2 hi
      have hic : p.L.contains i = false := by simpa using hiL
      have hnot : ∀ e ∈ oi.after, Region.binds md e = true → e.on ≠ k := fun e he hb heq => by
        have h1 := hall e he hb
        rw [heq, unl hkun] at h1; cases h1
      have hap := hfree i oi hoi hik hiun hnot
      obtain ⟨q1, q2, q3⟩ := Oper.apart_spec hap
      have hsi := fun cs b => hsel i oi cs b hoi
      have him : i ≠ p.m := fun e => hiL (e ▸ hmL (e ▸ hilt))
      unfold stepC at H
      simp only [hk, hkc, if_true] at H
      -- what i hands back
      obtain ⟨v, hv⟩ : ∃ v, Calm P ops (p.cls C i) oi v a := by
        obtain ⟨ds, u, w', hK⟩ := loudOp_some H
        have h2 := hK.2.2 i (ready_mono hi hik)
        unfold stepC at h2
        simp only [hoi, hic, Bool.false_eq_true, if_false] at h2
        obtain ⟨v, h3, _⟩ := h2
        exact ⟨v, Calm.unput hsi q1 h3⟩
      have hck : Closed md ops (listed.setIfInBounds k true) := hcl.set hr
      -- behind k, i is taken
      have H2 : loudOp P ops ok (fun a' w' => wpAnyC P md ops p C Q f ((listed.setIfInBounds k true).setIfInBounds i true) (a'.put oi.dst v) w') a w := by
        have key : ∀ (K : Act → World → Prop), loudOp P ops ok K a w → loudOp P ops ok (fun a' w' => K a' w' ∧ Calm P ops (p.cls C i) oi v a') a w := fun K hK => by
          unfold loudOp at hK ⊢
          split
          · rename_i hw
            simp only [hw, if_true] at hK
            unfold Oper.wp at hK ⊢
            generalize (execOp a.eval ok).run P w = r at *
            cases r with
            | ok n w' =>
              cases n <;> simp only [Oper.upon] at hK ⊢
              case value u => exact ⟨hK, hv.put hsi q1 a.defers u⟩
              case skip => exact ⟨hK, hv.put hsi q1 a.defers _⟩
              case defer d => exact ⟨hK, hv.put hsi q1 _ _⟩
              case enter f args =>
                refine Calls.mono hK fun e w'' he => ?_
                cases e with
                | returned u => exact ⟨he, hv.put hsi q1 a.defers u⟩
                | panicked c => exact he
                | outgrown => exact he
              case row row args => exact Rows.mono hK fun u w'' he => ⟨he, hv.put hsi q1 a.defers u⟩
            | halt x w' => cases x <;> simp only [Oper.upon] at hK ⊢ <;> exact hK
          · rename_i hw
            simp only [hw] at hK
            exact ⟨hK, hv.put hsi q1 a.defers _⟩
        refine loudOp_mono (fun a' w' h3 => ?_) (key _ H)
        obtain ⟨h3, hcalm⟩ := h3
        have h4 := h3.2.2 i (ready_mono hi hik)
        unfold stepC at h4
        simp only [hoi, hic, Bool.false_eq_true, if_false] at h4
        obtain ⟨v', h5, h6⟩ := h4
        have hun' : (listed.setIfInBounds k true).getD i false = false := by rw [getD_set_ne false (Ne.symm hik)]; exact unl hiun
        have : v' = v := h5.det (cls_holds hp hck (by simp [hsz]) hiL hilt hun' h3.1) hcalm
        rw [← this]; exact h6
      have H3 := loudOp_pull (K := wpAnyC P md ops p C Q f ((listed.setIfInBounds i true).setIfInBounds k true)) (w := w) (a := a) (v := v)
        (apart_symm hap) hsk (by
          rw [Array.setIfInBounds_comm _ _ hik]; exact H2)
      unfold stepC
      simp only [hoi, hic, Bool.false_eq_true, if_false]
      refine ⟨v, hv, ih _ _ w (hcl.set hi) (by simp [hsz]) ?_ ?_ (ready_mono hr (Ne.symm hik)) ?_ ?_⟩
      · intro j oj hj hjk hun hno
        refine hfree j oj hj hjk ?_ hno
        by_cases hij : i = j
        · subst hij; exact hiun
        · rw [getD_set_ne true hij] at hun; exact hun
      · intro j hjL hjk hjlt hun
        refine hord j hjL hjk hjlt ?_
        rw [getD_set_ne true (fun e => by subst e; exact hiL hjL)] at hun; exact hun
      · intro hm; rw [getD_set_ne false him] at hm; exact hC hm
      · unfold stepC
        simp only [hk, hkc, if_true]
        exact H3

/-! ### The text's order -/
/-- The walk in the text's order. -/
def wpC (P : Program) (ops : Array Oper) (p : Plan) (C : World → Prop) (Q : Act → World → Prop) : Nat → List Oper → Act → World → Prop
  | _, [], a, w => Q a w
  | k, o :: l, a, w =>
    if p.L.contains k then loudOp P ops o (fun a' w' => (k < p.m → C w') ∧ wpC P ops p C Q (k + 1) l a' w') a w
    else ∃ v, Calm P ops (p.cls C k) o v a ∧ (k < p.m → C w) ∧ wpC P ops p C Q (k + 1) l (a.put o.dst v) w

def Plan.okB (p : Plan) (md : Region.Mode) (ops : Array Oper) : Bool :=
  Region.lexB md ops && (decide (ops.size ≤ p.m) || p.L.contains p.m) &&
  (List.range ops.size).all fun i => if p.L.contains i then p.L.all fun k => decide (i ≤ k) || decide (ops.size ≤ k) || depB md ops k ops.size i
    else p.D.contains i || decide (ops.size ≤ p.m) || (i != p.m && depB md ops i ops.size p.m)

theorem wpAnyC_lex (hs : Region.noSelect ops = true) (hp : p.before md ops) (hmL : p.m < ops.size → p.m ∈ p.L)
    (hord : ∀ k j, k ∈ p.L → j ∈ p.L → k < j → j < ops.size → Dep md ops k j) : ∀ (l : List Oper) (k : Nat) (listed : Array Bool) (a : Act) (w : World), k + l.length = ops.size → (∀ j, l[j]? = ops[k + j]?) →
    Closed md ops listed → listed.size = ops.size → (∀ j, j < ops.size → listed.getD j false = decide (j < k)) →
    Region.lexFrom md ops l.length k listed = true → (k ≤ p.m → C w) → wpC P ops p C Q k l a w → wpAnyC P md ops p C Q l.length listed a w
  | [], k, listed, a, w, hk, hl, hcl, hsz, hlist, hB, hC, h => by
    simp at hk
    refine ⟨fun hm => hC ?_, by simpa [Region.lexFrom] using hB, h⟩
    rcases Nat.lt_or_ge p.m ops.size with h1 | h1
    · rw [hlist _ h1] at hm
      have := of_decide_eq_false hm
      omega
    · omega
  | o :: l, k, listed, a, w, hk, hl, hcl, hsz, hlist, hB, hC, h => by
    have h0 : ops[k]? = some o := by simpa using (hl 0).symm
    have hklt : k < ops.size := (Array.getElem?_eq_some_iff.1 h0).1
    simp only [List.length_cons] at hk
    simp only [List.length_cons, Region.lexFrom, Bool.and_eq_true] at hB
    obtain ⟨⟨hr, hf⟩, hB'⟩ := hB
    have hr' : k ∈ Region.ready md ops listed := by simpa using hr
    have hcl' := hcl.set hr'
    have hlist' : ∀ j, j < ops.size → (listed.setIfInBounds k true).getD j false = decide (j < k + 1) := fun j hj => by
      by_cases hjk : k = j
      · subst hjk; simp [hsz, hklt]
      · rw [getD_set_ne false hjk, hlist j hj]; simp; omega
    have hCw : listed.getD p.m false = false → C w := fun hm => hC (by
      rcases Nat.lt_or_ge p.m ops.size with h1 | h1
      · rw [hlist _ h1] at hm
        have := of_decide_eq_false hm
        omega
      · omega)
    have ih := fun a' w' (h' : (k < p.m → C w') ∧ wpC P ops p C Q (k + 1) l a' w') => wpAnyC_lex hs hp hmL hord l (k + 1) _ a' w' (by omega) (fun j => by have := hl (j + 1); simpa [Nat.add_assoc, Nat.add_comm 1 j] using this) hcl' (by simp [hsz]) hlist' hB' (fun hk => h'.1 hk) h'.2
    have hfree := Region.free_spec h0 hf
    by_cases hkL : k ∈ p.L
    · refine wpAnyC_loud (Region.noSelect_spec hs) hp hmL h0 hkL l.length listed a w hcl hsz hfree (fun j hjL hjk hjlt hun => hord k j hkL hjL ?_ hjlt) hr' hCw (stepC_mono ih (by unfold wpC at h; unfold stepC; simp only [h0]; simp only [show p.L.contains k = true by simpa using hkL, if_true] at h ⊢; exact h))
      have h1 := unl hun
      rw [hlist j hjlt] at h1
      have := of_decide_eq_false h1
      omega
    · have hkm : k ≠ p.m := fun e => hkL (e ▸ hmL (e ▸ hklt))
      unfold wpC at h
      simp only [show p.L.contains k = false by simpa using hkL, Bool.false_eq_true, if_false] at h
      obtain ⟨v, hy, hK⟩ := h
      exact wpAnyC_first (Region.noSelect_spec hs) hp h0 hkL l.length listed a w hcl hsz hfree hr' hy hCw hkm (ih _ _ hK)

theorem wpAny_of_C {Q' : Exit → Act → World → Prop} (hQ : ∀ a w, Q a w → Q' .normal a w) (hp : p.before md ops) : ∀ (fuel : Nat) (listed : Array Bool) (a : Act) (w : World), Closed md ops listed → listed.size = ops.size →
    wpAnyC P md ops p C Q fuel listed a w → wpAny P md ops Q' fuel listed a w
  | 0, _, _, _, _, _, h => ⟨h.2.1, hQ _ _ h.2.2⟩
  | fuel + 1, listed, a, w, hcl, hsz, h => ⟨fun h0 => hQ _ _ (h.2.1 h0), fun i hi => by
      have h1 := h.2.2 i hi
      obtain ⟨hiun, o, ho, _⟩ := mem_ready.1 hi
      have next := fun a' w' => wpAny_of_C hQ hp fuel (listed.setIfInBounds i true) a' w' (hcl.set hi) (by simp [hsz])
      unfold stepC at h1
      unfold wpOp
      simp only [ho] at h1 ⊢
      by_cases hl : p.L.contains i = true
      · simp only [hl, if_true] at h1
        unfold loudOp at h1
        split
        · rename_i hw
          simp only [hw, if_true] at h1
          refine .inl ?_
          unfold Oper.wp at *
          generalize (execOp a.eval o).run P w = r at *
          cases r with
          | ok n w' =>
            cases n <;> simp only [Oper.upon] at h1 ⊢
            case value u => exact next _ _ h1
            case skip => exact next _ _ h1
            case defer d => exact next _ _ h1
            case enter f args =>
              refine Calls.mono h1 fun e w'' he => ?_
              cases e with
              | returned u => exact next _ _ he
              | panicked c => exact he.elim
              | outgrown => obtain ⟨_, _, he⟩ := he; exact he.elim
            case row row args => exact Rows.mono h1 fun u w'' he => next _ _ he
          | halt x w' => cases x <;> simp only [Oper.upon, QF] at h1
        · rename_i hw
          simp only [hw] at h1
          exact next _ _ h1
      · simp only [hl] at h1
        obtain ⟨v, hy, hK⟩ := h1
        have hiL : i ∉ p.L := by simpa using hl
        have hilt : i < ops.size := (Array.getElem?_eq_some_iff.1 ho).1
        have hc := cls_holds hp hcl hsz hiL hilt (unl hiun) h.1
        rcases hy with ⟨hw, hv⟩ | ⟨hw, rfl⟩
        · simp only [hw, if_true]
          refine .inl ?_
          rcases hv w hc with hv1 | ⟨hv1, hu⟩
          · unfold Oper.wp; rw [hv1]; exact next _ _ hK
          · subst hu; unfold Oper.wp; rw [hv1]; exact next _ _ hK
        · simp only [hw, Bool.false_eq_true, if_false]; exact next _ _ hK⟩

/-- **A REGION THAT DRAWS ITS ORDER, WALKED IN THE TEXT's ORDER.** -/
theorem wp_region_text {id : Nat} {Q' : Exit → Act → World → Prop} {a : Act} {w : World} {l : List Oper} (p : Plan) (C : World → Prop) (hm : P.follows .mixedOrders = true) (hB : p.okB .any l.toArray = true)
    (hC : C w.drew) (h : wpC P l.toArray p C (fun a' w' => Q' .normal a' w') 0 l a w.drew) : (Code.region id l.toArray true).wp P Q' a w := by
  simp only [Plan.okB, Region.lexB, Bool.and_eq_true, Bool.or_eq_true, decide_eq_true_eq, List.all_eq_true, List.mem_range] at hB
  obtain ⟨⟨⟨hs, hlex⟩, hm'⟩, hall⟩ := hB
  have hmL : p.m < l.toArray.size → p.m ∈ p.L := fun h1 => by
    rcases hm' with h2 | h2
    · omega
    · simpa using h2
  have hbef : p.before .any l.toArray := fun i hiL hiD hilt => by
    have h1 := hall i hilt
    simp only [show p.L.contains i = false by simpa using hiL, show p.D.contains i = false by simpa using hiD, Bool.false_eq_true, if_false, Bool.false_or, Bool.or_eq_true, decide_eq_true_eq, Bool.and_eq_true, bne_iff_ne] at h1
    rcases h1 with h1 | h1
    · exact .inl h1
    · exact .inr ⟨h1.1, depB_spec _ _ h1.2⟩
  have hord : ∀ k j, k ∈ p.L → j ∈ p.L → k < j → j < l.toArray.size → Dep .any l.toArray k j := fun k j hk hj hkj hjlt => by
    have h1 := hall j hjlt
    simp only [show p.L.contains j = true by simpa using hj, if_true, List.all_eq_true, Bool.or_eq_true, decide_eq_true_eq] at h1
    rcases h1 k hk with (h2 | h2) | h2
    · omega
    · omega
    · exact depB_spec _ _ h2
  have hcl : Closed Region.Mode.any l.toArray (Array.replicate l.toArray.size false) := fun j o _ hl' => by
    rcases Nat.lt_or_ge j l.toArray.size with h1 | h1 <;> simp_all
  refine wp_region_any hm (wpAny_of_C (Q := fun a' w' => Q' .normal a' w') (p := p) (C := C) (fun _ _ h => h) hbef _ _ _ _ hcl (by simp) ?_)
  have := wpAnyC_lex (C := C) hs hbef hmL hord l 0 (Array.replicate l.toArray.size false) a { w with drawn := w.drawn + 1 } (by simp) (by simp) hcl (by simp)
    (fun j hj => by simp_all) (by simpa using hlex) (fun _ => hC) h
  simpa using this

/-! ### Its steps -/
def noEnter (o : Oper) : Bool := match o.op with
  | .call { callee := .builtin .len, .. } | .call { callee := .builtin .cap, .. } | .call { callee := .builtin .max, .. } | .call { callee := .builtin .min, .. } => true
  | .call _ | .go _ | .defer _ | .send .. | .recv .. | .select .. => false
  | _ => true
theorem v_run {s : Sem Value} {w w' : World} {f : FuncId} {args : Array Value} (h : (do pure (.value (← s)) : Sem Next).run P w = .ok (.enter f args) w') : False := by
  rw [Sem.run_bind] at h
  cases hs : s.run P w with
  | ok v w1 => rw [hs] at h; simp at h
  | halt x w1 => rw [hs] at h; simp at h
theorem u_run {s : Sem Unit} {w w' : World} {f : FuncId} {args : Array Value} (h : (do s; pure .skip : Sem Next).run P w = .ok (.enter f args) w') : False := by
  rw [Sem.run_bind] at h
  cases hs : s.run P w with
  | ok v w1 => rw [hs] at h; simp at h
  | halt x w1 => rw [hs] at h; simp at h
theorem noEnter_run {o : Oper} {ρ : Operand → Value} {w w' : World} {f : FuncId} {args : Array Value} (hn : noEnter o = true) : (execOp ρ o).run P w ≠ .ok (.enter f args) w' := by
  intro h
  obtain ⟨dst, op, type, pos, after, guard⟩ := o
  cases op
  case call c =>
    obtain ⟨callee, args', ts⟩ := c
    cases callee
    case builtin b =>
      cases b <;> simp [noEnter] at hn
      all_goals
        simp only [execOp, resolve, Sem.run_bind, Sem.run_pure, Result.andThen_ok, invoke, builtin] at h
        exact v_run (by rw [Sem.run_bind]; exact h)
    all_goals simp [noEnter] at hn
  all_goals first | (simp [noEnter] at hn; done) | skip
  case nilCheck x =>
    simp only [execOp] at h
    have hb : ∀ {α : Type} (s : Sem α) (g : α → Sem Next) (w : World), (∀ x w1, (g x).run P w1 ≠ .ok (.enter f args) w') → (s >>= g).run P w ≠ .ok (.enter f args) w' := fun s g w hg h => by
      rw [Sem.run_bind] at h
      cases hs : s.run P w with
      | ok v w1 => rw [hs] at h; exact hg v w1 h
      | halt x w1 => rw [hs] at h; simp at h
    have np : ∀ w, (runtimePanic (α := Next) .nilDeref).run P w ≠ .ok (.enter f args) w' := fun w => by
      unfold runtimePanic
      exact hb _ _ _ fun p w1 => by simp [goPanic, Sem.run]
    split at h
    any_goals exact np _ h
    · split at h
      · exact np _ h
      · revert h
        refine hb _ _ _ fun p w1 => hb _ _ _ fun b w2 => ?_
        split
        · exact hb _ _ _ fun _ w3 => by simp
        · simp
      · simp at h
    · simp at h
  case pick c a b =>
    simp only [execOp] at h
    rw [Sem.run_bind] at h
    cases hs : (asBool (ρ c)).run P w with
    | ok v w1 => rw [hs] at h; simp at h
    | halt x w1 => rw [hs] at h; simp at h
  all_goals simp only [execOp] at h
  all_goals first | exact v_run h | exact u_run h | (simp at h; done) | skip

theorem calm_of_quiet {o : Oper} {a : Act} {C : World → Prop} {v : Value} {w : World} (hn : noEnter o = true) (h : o.quietAt P a C w v) : calmAt P o a v w := by
  unfold Oper.quietAt at h
  unfold calmAt
  have hne := fun f args w' => noEnter_run (P := P) (ρ := a.eval) (w := w) (w' := w') (f := f) (args := args) hn
  generalize (execOp a.eval o).run P w = r at *
  cases r with
  | ok n w' =>
    cases n <;> simp only [Oper.quietUpon] at h
    case value u => obtain ⟨rfl, rfl⟩ := h; exact .inl rfl
    case skip => obtain ⟨rfl, rfl⟩ := h; exact .inr ⟨rfl, rfl⟩
    case enter f args => exact absurd rfl (hne f args w')
  | halt x w' => simp only [Oper.quietUpon] at h

/-- So many calm operations. 'd': calm in every world. -/
theorem wpC_seg {p : Plan} {Q : Act → World → Prop} {w : World} (d : Bool) (hC : C w) : ∀ (n k : Nat) (l : List Oper) (a : Act),
    ((List.range n).all fun j => !p.L.contains (k + j) && (p.D.contains (k + j) == d)) = true → (l.take n).all noEnter = true →
    wpQuiet P ops (if d then fun _ => True else C) (fun a' => wpC P ops p C Q (k + n) (l.drop n) a' w) (l.take n) a → wpC P ops p C Q k l a w
  | 0, k, l, a, _, _, h => by simpa [wpQuiet] using h
  | n + 1, k, [], a, _, _, h => by simp [wpQuiet, wpC] at h ⊢; exact h
  | n + 1, k, o :: l, a, hB, hn, h => by
    have h0 := List.all_eq_true.1 hB 0 (by simp)
    simp only [Nat.add_zero, Bool.and_eq_true, Bool.not_eq_true', beq_iff_eq] at h0
    simp only [List.take_succ_cons, List.all_cons, Bool.and_eq_true] at hn
    simp only [List.take_succ_cons, wpQuiet, List.drop_succ_cons] at h
    have hB' : ((List.range n).all fun j => !p.L.contains (k + 1 + j) && (p.D.contains (k + 1 + j) == d)) = true := by
      refine List.all_eq_true.2 fun j hj => ?_
      have := List.all_eq_true.1 hB (j + 1) (by simp at hj ⊢; omega)
      rwa [show k + (j + 1) = k + 1 + j by omega] at this
    have next := fun a' (h' : wpQuiet P ops (if d then fun _ => True else C) (fun a' => wpC P ops p C Q (k + (n + 1)) (l.drop n) a' w) (l.take n) a') =>
      wpC_seg d hC n (k + 1) l a' hB' hn.2 (by rw [show k + 1 + n = k + (n + 1) by omega]; exact h')
    have hcls : p.cls C k = (if d then fun _ => True else C) := by
      unfold Plan.cls; rw [h0.2]
    unfold wpC
    simp only [h0.1, Bool.false_eq_true, if_false]
    by_cases hw : Region.wanted o (yielded ops a.tmps) = true
    · simp only [hw, if_true] at h
      obtain ⟨v, h1, h2⟩ := h
      exact ⟨v, .inl ⟨hw, fun w' hw' => calm_of_quiet hn.1 (h1 w' (by rw [← hcls]; exact hw'))⟩, fun _ => hC, next _ h2⟩
    · simp only [hw] at h
      exact ⟨undef, .inr ⟨by simpa using hw, rfl⟩, fun _ => hC, next _ h⟩
/-- The same behind operation m: calm in every world. -/
theorem wpC_segD {p : Plan} {Q : Act → World → Prop} {w : World} : ∀ (n k : Nat) (l : List Oper) (a : Act),
    ((List.range n).all fun j => !p.L.contains (k + j) && p.D.contains (k + j) && decide (p.m ≤ k)) = true → (l.take n).all noEnter = true →
    wpQuiet P ops (fun _ => True) (fun a' => wpC P ops p C Q (k + n) (l.drop n) a' w) (l.take n) a → wpC P ops p C Q k l a w
  | 0, k, l, a, _, _, h => by simpa [wpQuiet] using h
  | n + 1, k, [], a, _, _, h => by simp [wpQuiet, wpC] at h ⊢; exact h
  | n + 1, k, o :: l, a, hB, hn, h => by
    have h0 := List.all_eq_true.1 hB 0 (by simp)
    simp only [Nat.add_zero, Bool.and_eq_true, Bool.not_eq_true', decide_eq_true_eq] at h0
    simp only [List.take_succ_cons, List.all_cons, Bool.and_eq_true] at hn
    simp only [List.take_succ_cons, wpQuiet, List.drop_succ_cons] at h
    have hB' : ((List.range n).all fun j => !p.L.contains (k + 1 + j) && p.D.contains (k + 1 + j) && decide (p.m ≤ k + 1)) = true := by
      refine List.all_eq_true.2 fun j hj => ?_
      have := List.all_eq_true.1 hB (j + 1) (by simp at hj ⊢; omega)
      rw [show k + (j + 1) = k + 1 + j by omega] at this
      simp only [Bool.and_eq_true, Bool.not_eq_true', decide_eq_true_eq] at this ⊢
      exact ⟨this.1, by omega⟩
    have next := fun a' (h' : wpQuiet P ops (fun _ => True) (fun a' => wpC P ops p C Q (k + (n + 1)) (l.drop n) a' w) (l.take n) a') =>
      wpC_segD n (k + 1) l a' hB' hn.2 (by rw [show k + 1 + n = k + (n + 1) by omega]; exact h')
    have hcls : p.cls C k = (fun _ => True) := by
      unfold Plan.cls; rw [if_pos h0.1.2]
    unfold wpC
    simp only [h0.1.1, Bool.false_eq_true, if_false]
    by_cases hw : Region.wanted o (yielded ops a.tmps) = true
    · simp only [hw, if_true] at h
      obtain ⟨v, h1, h2⟩ := h
      exact ⟨v, .inl ⟨hw, fun w' hw' => calm_of_quiet hn.1 (h1 w' trivial)⟩, fun hk => by omega, next _ h2⟩
    · simp only [hw] at h
      exact ⟨undef, .inr ⟨by simpa using hw, rfl⟩, fun hk => by omega, next _ h⟩
/-- An operation that is followed as it stands. -/
theorem wpC_loud {p : Plan} {Q : Act → World → Prop} {w : World} {k : Nat} {o : Oper} {l : List Oper} {a : Act} (hL : p.L.contains k = true) (hw : Region.wanted o (yielded ops a.tmps) = true)
    (h : ∀ K : Act → World → Prop, (∀ a' w', (k < p.m → C w') → wpC P ops p C Q (k + 1) l a' w' → K a' w') → o.wp P a w K QF) : wpC P ops p C Q k (o :: l) a w := by
  unfold wpC loudOp
  simp only [hL, hw, if_true]
  exact h _ fun a' w' h1 h2 => ⟨h1, h2⟩
/-- .. which its guard passes over. -/
theorem wpC_skip {p : Plan} {Q : Act → World → Prop} {w : World} {k : Nat} {o : Oper} {l : List Oper} {a : Act} (hL : p.L.contains k = true) (hw : Region.wanted o (yielded ops a.tmps) = false)
    (hC : k < p.m → C w) (h : wpC P ops p C Q (k + 1) l (a.put o.dst undef) w) : wpC P ops p C Q k (o :: l) a w := by
  unfold wpC loudOp
  simp only [hL, hw, if_true, Bool.false_eq_true, if_false]
  exact ⟨hC, h⟩
/-- .. whose run is known. -/
theorem wpC_value {p : Plan} {Q : Act → World → Prop} {w w' : World} {k : Nat} {o : Oper} {l : List Oper} {a : Act} {v : Value} (hL : p.L.contains k = true) (hw : Region.wanted o (yielded ops a.tmps) = true)
    (hr : (execOp a.eval o).run P w = .ok (.value v) w') (hC : k < p.m → C w') (h : wpC P ops p C Q (k + 1) l (a.put o.dst v) w') : wpC P ops p C Q k (o :: l) a w :=
  wpC_loud hL hw fun K hK => by unfold Oper.wp; rw [hr]; exact hK _ _ hC h
theorem wpC_store {p : Plan} {Q : Act → World → Prop} {w w' : World} {k : Nat} {o : Oper} {l : List Oper} {a : Act} (hL : p.L.contains k = true) (hw : Region.wanted o (yielded ops a.tmps) = true)
    (hr : (execOp a.eval o).run P w = .ok .skip w') (hC : k < p.m → C w') (h : wpC P ops p C Q (k + 1) l (a.put o.dst undef) w') : wpC P ops p C Q k (o :: l) a w :=
  wpC_loud hL hw fun K hK => by unfold Oper.wp; rw [hr]; exact hK _ _ hC h
theorem wpC_nil {p : Plan} {Q : Act → World → Prop} {w : World} {k : Nat} {a : Act} (h : Q a w) : wpC P ops p C Q k [] a w := h
/-- A class of worlds by an index of which nothing is known but the class's facts. -/
theorem classOf (F : World → Prop) {w : World} (hw : F w) : ∃ (X : Type) (f : X → World) (_ : Nonempty X), (∀ x, F (f x)) ∧ ∀ w, F w → ∃ x, w = f x :=
  ⟨{w : World // F w}, fun x => x.1, ⟨w, hw⟩, fun x => x.2, fun w h => ⟨⟨w, h⟩, rfl⟩⟩
end
end Go.Proofs.YtcoepekoacpgnaaDoor
