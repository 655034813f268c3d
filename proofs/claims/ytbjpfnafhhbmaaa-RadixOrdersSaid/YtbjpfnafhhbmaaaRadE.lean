/- radix: what RadixOrders leans on, in plain Lean. -/
import Derived.Test.YtbjpfnafhhbmaaaRadF
namespace Go.Proofs.Ytbjpfnafhhbmaaa.Rad
open Go.Proofs.Ytbjpfnafhhbmaaa
set_option linter.unusedVariables false
set_option linter.unusedSimpArgs false
open Go.RowKit RT
mutual
/-- A tree without its things. -/
def shape : RT → RT
  | .mk b v k => .mk b zT (shapeS k)
def shapeS : List RT → List RT
  | [] => []
  | t :: l => shape t :: shapeS l
end
theorem shapeS_len : ∀ l : List RT, (shapeS l).length = l.length
  | [] => rfl
  | t :: l => by rw [shapeS, List.length_cons, List.length_cons, shapeS_len l]
theorem shape_begin (t : RT) : (shape t).begin = t.begin := by
  cases t; rw [shape]; rfl
theorem shapeS_mem : ∀ {l : List RT} {u : RT}, u ∈ shapeS l → ∃ t ∈ l, u = shape t
  | [], u, h => by rw [shapeS] at h; simp at h
  | t :: l, u, h => by
    rw [shapeS] at h
    rcases List.mem_cons.1 h with rfl | h
    · exact ⟨t, by simp, rfl⟩
    · obtain ⟨t', h1, h2⟩ := shapeS_mem h
      exact ⟨t', by simp [h1], h2⟩
mutual
theorem nodes_shape : ∀ t : RT, RT.nodes (shape t) = RT.nodes t
  | .mk b v k => by rw [shape, RT.nodes, RT.nodes, nodes_shapeS k]
theorem nodes_shapeS : ∀ l : List RT, RT.nodesS (shapeS l) = RT.nodesS l
  | [] => by rw [shapeS]
  | t :: l => by rw [shapeS, RT.nodesS, RT.nodesS, nodes_shape t, nodes_shapeS l]
end
mutual
theorem look_shape : ∀ (t : RT) (s : List UInt8), RT.look (shape t) s = (RT.look t s).map fun _ => zT
  | .mk b v k, s => by
    rw [shape, RT.look, RT.look]
    split
    · rfl
    · split
      · rfl
      · exact look_shapeS k _
theorem look_shapeS : ∀ (l : List RT) (s : List UInt8), RT.lookS (shapeS l) s = (RT.lookS l s).map fun _ => zT
  | [], s => by rw [shapeS, RT.lookS]; rfl
  | t :: l, s => by
    rw [shapeS, RT.lookS, RT.lookS, shape_begin]
    split
    · exact look_shape t s
    · exact look_shapeS l s
end
mutual
theorem wf_shape : ∀ {t : RT} {n : Nat}, WF n t → WF n (shape t)
  | .mk b v k, n, h => by
    rw [shape]
    rw [WF] at h ⊢
    refine ⟨h.1, h.2.imp ?_ ?_⟩
    · rintro ⟨rfl, h2⟩
      exact ⟨by rw [shapeS], h2⟩
    · rintro ⟨h1, h2, h3, h4⟩
      exact ⟨by rw [shapeS_len]; exact h1, rfl, h3, wf_shapeS h4⟩
theorem wf_shapeS : ∀ {l : List RT} {n : Nat}, WFS n l → WFS n (shapeS l)
  | [], n, h => by rw [shapeS]; exact h
  | t :: l, n, h => by
    rw [shapeS]
    rw [WFS] at h ⊢
    refine ⟨by rw [shape_begin]; exact h.1, wf_shape h.2.1, fun u hu => ?_, wf_shapeS h.2.2.2⟩
    obtain ⟨t', h1, rfl⟩ := shapeS_mem hu
    have := h.2.2.1 t' h1
    unfold RT.first at this ⊢
    rw [shape_begin, shape_begin]
    exact this
end
/-- As many nodes as its keys ask for. -/
theorem nodes_keys {T U : Option RT} (h1 : WFO T) (h2 : WFO U) (h : ∀ s, s.length = 16 → ((lookO T s).isSome = (lookO U s).isSome)) : nodesO T = nodesO U := by
  have hm : ∀ V : Option RT, WFO V → WFO (V.map shape) := fun V hV t e => by
    cases V with
    | none => cases e
    | some t0 => cases e; exact wf_shape (hV t0 rfl)
  have hl : ∀ (V : Option RT) s, lookO (V.map shape) s = (lookO V s).map fun _ => zT := fun V s => by
    cases V with
    | none => rfl
    | some t0 => exact look_shape t0 s
  have hn : ∀ V : Option RT, nodesO (V.map shape) = nodesO V := fun V => by
    cases V with
    | none => rfl
    | some t0 => exact nodes_shape t0
  rw [← hn T, ← hn U, canonO (hm T h1) (hm U h2) fun s hs => ?_]
  rw [hl, hl]
  have := h s hs
  cases h3 : lookO T s <;> cases h4 : lookO U s <;> simp [h3, h4] at this ⊢
/-- Two rows of rising keys with the same keys are one. -/
theorem rise_ext : ∀ {l m : List (List UInt8)}, l.Pairwise (· < ·) → m.Pairwise (· < ·) → (∀ x, x ∈ l ↔ x ∈ m) → l = m
  | [], [], _, _, _ => rfl
  | [], y :: m, _, _, h => by have := (h y).2 (by simp); simp at this
  | x :: l, [], _, _, h => by have := (h x).1 (by simp); simp at this
  | x :: l, y :: m, h1, h2, h => by
    rw [List.pairwise_cons] at h1 h2
    have hxy : x = y := by
      have hx := (h x).1 (by simp)
      have hy := (h y).2 (by simp)
      rcases List.mem_cons.1 hx with e | hx
      · exact e
      · rcases List.mem_cons.1 hy with e | hy
        · exact e.symm
        · exact absurd (List.lt_trans (h1.1 y hy) (h2.1 x hx)) (List.lt_irrefl x)
    subst hxy
    congr 1
    refine rise_ext h1.2 h2.2 fun z => ⟨fun hz => ?_, fun hz => ?_⟩
    · rcases List.mem_cons.1 ((h z).1 (by simp [hz])) with e | h'
      · subst e; exact absurd (h1.1 z hz) (List.lt_irrefl z)
      · exact h'
    · rcases List.mem_cons.1 ((h z).2 (by simp [hz])) with e | h'
      · subst e; exact absurd (h2.1 z hz) (List.lt_irrefl z)
      · exact h'
theorem keys_rise {T : Option RT} (h : WFO T) : ((itemsO T).map Prod.fst).Pairwise (· < ·) := by
  rw [List.pairwise_map]; exact itemsO_rise h
theorem keys_same {T U : Option RT} (h1 : WFO T) (h2 : WFO U) (h : ∀ s, s.length = 16 → ((lookO T s).isSome = (lookO U s).isSome)) : (itemsO T).map Prod.fst = (itemsO U).map Prod.fst := by
  refine rise_ext (keys_rise h1) (keys_rise h2) fun s => ?_
  rw [mem_keys h1, mem_keys h2]
  refine and_congr_right fun hs => ?_
  have := h s hs
  cases h3 : lookO T s <;> cases h4 : lookO U s <;> simp [h3, h4] at this ⊢
/-- A key's identifier. -/
def idOf (s : List UInt8) : Nat × Nat := (valB (s.take 8), valB (s.drop 8))
theorem idOf_bytes {s : List UInt8} (h : s.length = 16) : idBytes (idOf s).1 (idOf s).2 = s := id_valB h
theorem idOf_lt {s : List UInt8} (h : s.length = 16) : (idOf s).1 < 18446744073709551616 ∧ (idOf s).2 < 18446744073709551616 :=
  ⟨valB_lt64 _ (by simp; omega), valB_lt64 _ (by simp; omega)⟩
/-- The tree's identifiers, rising. -/
def idsO (T : Option RT) : List (Nat × Nat) := ((itemsO T).map Prod.fst).map idOf
theorem told_ids (T : Option RT) (s : List UInt8) : (toldL T s).flatMap idC = ((((itemsO T).map Prod.fst).filter fun k => !decide (k < s)).map idOf).flatMap fun x => [Value.int .u64 x.1, Value.int .u64 x.2] := by
  unfold toldL fromL
  generalize itemsO T = l
  induction l with
  | nil => rfl
  | cons p l ih =>
    simp only [List.filter_cons, List.map_cons]
    split
    · simp only [List.map_cons, List.flatMap_cons, ih]
      rfl
    · exact ih
theorem told_len (T : Option RT) (s : List UInt8) : (toldL T s).length = ((((itemsO T).map Prod.fst).filter fun k => !decide (k < s)).map idOf).length := by
  unfold toldL fromL
  generalize itemsO T = l
  induction l with
  | nil => rfl
  | cons p l ih =>
    simp only [List.filter_cons, List.map_cons]
    split
    · simp only [List.map_cons, List.length_cons, ih]
    · exact ih
def lessN (a b : Nat × Nat) : Bool := decide (a.1 < b.1 ∨ (a.1 = b.1 ∧ a.2 < b.2))
theorem less_ids {s t : List UInt8} (hs : s.length = 16) (ht : t.length = 16) : lessN (idOf s) (idOf t) = decide (s < t) := by
  have h1 := idOf_lt hs
  have h2 := idOf_lt ht
  have := idBytes_lt h1.1 h1.2 h2.1 h2.2
  rw [idOf_bytes hs, idOf_bytes ht] at this
  unfold lessN
  rw [decide_eq_decide]
  exact this.symm
theorem idsO_rise {T : Option RT} (h : WFO T) : (idsO T).Pairwise fun a b => lessN a b = true := by
  unfold idsO
  rw [List.pairwise_map]
  have hk := keys_rise h
  have hm : ∀ s ∈ (itemsO T).map Prod.fst, s.length = 16 := fun s hs => ((mem_keys h s).1 hs).1
  revert hk hm
  generalize (itemsO T).map Prod.fst = l
  intro hk hm
  induction l with
  | nil => exact List.Pairwise.nil
  | cons x l ih =>
    rw [List.pairwise_cons] at hk ⊢
    exact ⟨fun y hy => by rw [less_ids (hm x (by simp)) (hm y (by simp [hy]))]; simpa using hk.1 y hy, ih hk.2 fun s hs => hm s (by simp [hs])⟩
theorem from_ids {T : Option RT} (h : WFO T) {ms seq : Nat} (h1 : ms < 18446744073709551616) (h2 : seq < 18446744073709551616) :
    (((itemsO T).map Prod.fst).filter fun k => !decide (k < idBytes ms seq)).map idOf = (idsO T).filter fun x => !lessN x (ms, seq) := by
  unfold idsO
  have hm : ∀ s ∈ (itemsO T).map Prod.fst, s.length = 16 := fun s hs => ((mem_keys h s).1 hs).1
  revert hm
  generalize (itemsO T).map Prod.fst = l
  intro hm
  induction l with
  | nil => rfl
  | cons x l ih =>
    have hx := hm x (by simp)
    have e : lessN (idOf x) (ms, seq) = decide (x < idBytes ms seq) := by
      have := less_ids hx (idBytes_length ms seq)
      rw [show idOf (idBytes ms seq) = (ms, seq) by
        have := idBytes_inj (idOf_lt (idBytes_length ms seq)).1 (idOf_lt (idBytes_length ms seq)).2 h1 h2 (idOf_bytes (idBytes_length ms seq))
        exact Prod.ext this.1 this.2] at this
      exact this
    simp only [List.filter_cons, List.map_cons, e]
    split
    · rw [List.map_cons, ih fun s hs => hm s (by simp [hs])]
    · exact ih fun s hs => hm s (by simp [hs])
theorem from_all {T : Option RT} (h : WFO T) : (((itemsO T).map Prod.fst).filter fun k => !decide (k < idBytes 0 0)).map idOf = idsO T := by
  rw [from_ids h (by omega) (by omega)]
  refine List.filter_eq_self.2 fun x _ => ?_
  simp [lessN]
end Go.Proofs.Ytbjpfnafhhbmaaa.Rad
