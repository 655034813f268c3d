/- Lemmas and walks for QuickIsRow, part 3 of 4: the texts Qck1, Qck2, Qck3, Qck4, Qck5, Qck6, Reg2, Apt, PckD, Qck7, Qck10, Qck11, Qck12, PckE, Qck14, Qck8, Qck9, Qck13, Qcl1, Qcl2, Qcl3, Qck15. -/
import Derived.Test.YtfbhddllimfdlaaDoorMB2
import Derived.Test.YtfbhddllimfdlaaDoorMB1
import Derived.OrdersIn
import Derived.ControlIn
import Derived.Laws.EntriesVeiled
import Derived.Lib.ItoaWalk
/- quick: a long row of texts in memory. -/
namespace Go.Proofs.YtfbhddllimfdlaaDoor
set_option linter.unusedVariables false
set_option linter.unusedSimpArgs false
open Go.RowKit
/-- A node: its block, its pack, the pack's blocks, the pack's texts. -/
structure Nd where
  x : Nat
  p : Nat
  F : Nat → Prop
  T : List ByteArray
def ptrO : Option Nat → Value
  | none => .pointer none
  | some x => .pointer (some ⟨x, 0, none⟩)
def hdO : List Nd → Option Nat → Option Nat
  | [], b => b
  | nd :: _, _ => some nd.x
def lstO : Option Nat → List Nd → Option Nat
  | a, [] => a
  | _, nd :: l => lstO (some nd.x) l
def nodeO (p : Nat) (a b : Option Nat) : Obj := .cells #[.pointer (some ⟨p, 0, none⟩), ptrO a, ptrO b] 92 (0, 0)
def quickO (a b : Option Nat) (n : Int) : Obj := .cells #[.bool true, ptrO a, ptrO b, .int .i64 n] 96 (0, 0)
def Chain (w : World) : Option Nat → List Nd → Option Nat → Prop
  | _, [], _ => True
  | a, nd :: l, b => w.heap[nd.x]? = some (nodeO nd.p a (hdO l b)) ∧ Chain w (some nd.x) l b
def key (nd : Nd) : Nat × Nat := (nd.x, nd.p)
section
variable {w w' : World} {b : Option Nat} {A B : List Nd} {nd : Nd}
theorem hdO_append : hdO (A ++ B) b = hdO A (hdO B b) := by cases A <;> rfl
theorem lstO_append : ∀ (A : List Nd) (a : Option Nat), lstO a (A ++ B) = lstO (lstO a A) B
  | [], a => rfl
  | nd :: l, a => lstO_append l (some nd.x)
theorem lstO_last (A : List Nd) (u : Nd) (a : Option Nat) : lstO a (A ++ [u]) = some u.x := by rw [lstO_append]; rfl
theorem chain_append : ∀ (A : List Nd) (a : Option Nat), Chain w a (A ++ B) b ↔ Chain w a A (hdO B b) ∧ Chain w (lstO a A) B b
  | [], a => by simp [Chain, lstO]
  | nd :: l, a => by
    simp only [List.cons_append, Chain, lstO, chain_append l, hdO_append, and_assoc]
theorem Chain.keep : ∀ {l : List Nd} {a : Option Nat}, Chain w a l b → (∀ nd ∈ l, w'.heap[nd.x]? = w.heap[nd.x]?) → Chain w' a l b
  | [], _, _, _ => trivial
  | nd :: l, a, h, hk => ⟨(hk nd (by simp)).trans h.1, Chain.keep h.2 fun x hx => hk x (by simp [hx])⟩
theorem Chain.isNode : ∀ {l : List Nd} {a : Option Nat}, Chain w a l b → ∀ nd ∈ l, ∃ a b, w.heap[nd.x]? = some (nodeO nd.p a b)
  | [], _, _, nd, h => by simp at h
  | u :: l, a, h, nd, hm => by
    rcases List.mem_cons.1 hm with rfl | hm
    · exact ⟨_, _, h.1⟩
    · exact Chain.isNode h.2 nd hm
theorem hdO_key : ∀ {l m : List Nd} (b : Option Nat), l.map key = m.map key → hdO l b = hdO m b
  | [], [], _, _ => rfl
  | u :: l, v :: m, _, h => by
    simp only [List.map_cons, List.cons.injEq, key, Prod.mk.injEq] at h
    simp [hdO, h.1.1]
  | [], _ :: _, _, h => by simp at h
  | _ :: _, [], _, h => by simp at h
theorem lstO_key : ∀ {l m : List Nd} (a : Option Nat), l.map key = m.map key → lstO a l = lstO a m
  | [], [], _, _ => rfl
  | u :: l, v :: m, _, h => by
    simp only [List.map_cons, List.cons.injEq, key, Prod.mk.injEq] at h
    simp only [lstO, h.1.1]
    exact lstO_key _ h.2
  | [], _ :: _, _, h => by simp at h
  | _ :: _, [], _, h => by simp at h
theorem Chain.key : ∀ {l m : List Nd} {a : Option Nat}, l.map key = m.map key → Chain w a l b → Chain w a m b
  | [], [], _, _, _ => trivial
  | u :: l, v :: m, a, h, hc => by
    have hh := h
    simp only [List.map_cons, List.cons.injEq, Proofs.YtfbhddllimfdlaaDoor.key, Prod.mk.injEq] at h
    refine ⟨?_, ?_⟩
    · rw [← h.1.1, ← h.1.2, ← hdO_key b (l := l) (m := m) (List.cons.inj hh).2]; exact hc.1
    · rw [← h.1.1]; exact Chain.key (List.cons.inj hh).2 hc.2
  | [], _ :: _, _, h, _ => by simp at h
  | _ :: _, [], _, h, _ => by simp at h
end
/-- The nodes' packs are apart. -/
def ApartN (Ns : List Nd) : Prop := Ns.Pairwise fun a b => ∀ k, a.F k → ¬ b.F k
/-- A long row: the head in block q, its nodes, how many it says it has. -/
structure QRow (w : World) (q : Nat) (Ns : List Nd) (n : Int) : Prop where
  head : w.heap[q]? = some (quickO (hdO Ns none) (lstO none Ns) n)
  chain : Chain w none Ns none
  packs : ∀ nd ∈ Ns, PackF w nd.p nd.F nd.T
  apart : ApartN Ns
def foot (q : Nat) (Ns : List Nd) (k : Nat) : Prop := k = q ∨ ∃ nd ∈ Ns, k = nd.x ∨ nd.F k
def flatN (Ns : List Nd) : List ByteArray := (Ns.map Nd.T).flatten
theorem flat_append (A B : List Nd) : flatN (A ++ B) = flatN A ++ flatN B := by simp [flatN]
theorem flat_cons (nd : Nd) (B : List Nd) : flatN (nd :: B) = nd.T ++ flatN B := by simp [flatN]
@[simp] theorem flat_nil : flatN [] = [] := rfl
theorem PackF.kind {w : World} {p : Nat} {F : Nat → Prop} {L : List ByteArray} (h : PackF w p F L) {k : Nat} (hk : F k) : ∃ cs E fz, w.heap[k]? = some (.cells cs E fz) ∧ (E = 70 ∨ E = 5) := by
  obtain ⟨g, cap, cur, h, hF⟩ := h
  rcases (hF k).1 hk with rfl | rfl
  · exact ⟨_, _, _, h.head, .inl rfl⟩
  · obtain ⟨fz, _, hh⟩ := h.row
    exact ⟨_, _, _, hh, .inr rfl⟩
section
variable {w w' : World} {q : Nat} {Ns A B : List Nd} {nd u : Nd} {n : Int}
theorem QRow.isNode (h : QRow w q Ns n) (hm : nd ∈ Ns) : ∃ a b, w.heap[nd.x]? = some (nodeO nd.p a b) := h.chain.isNode nd hm
theorem QRow.node (h : QRow w q (A ++ nd :: B) n) : w.heap[nd.x]? = some (nodeO nd.p (lstO none A) (hdO B none)) := ((chain_append A none).1 h.chain).2.1
theorem QRow.x_nF (h : QRow w q Ns n) (h1 : nd ∈ Ns) (h2 : u ∈ Ns) : ¬ u.F nd.x := fun hF => by
  obtain ⟨a, b, e⟩ := h.isNode h1
  obtain ⟨cs, E, fz, e2, hE⟩ := (h.packs u h2).kind hF
  rw [e] at e2
  injection e2 with e2
  injection e2 with _ e3 _
  rcases hE with rfl | rfl <;> exact absurd e3 (by decide)
theorem QRow.q_nF (h : QRow w q Ns n) (h2 : u ∈ Ns) : ¬ u.F q := fun hF => by
  obtain ⟨cs, E, fz, e2, hE⟩ := (h.packs u h2).kind hF
  rw [h.head] at e2
  injection e2 with e2
  injection e2 with _ e3 _
  rcases hE with rfl | rfl <;> exact absurd e3 (by decide)
theorem QRow.q_nx (h : QRow w q Ns n) (h2 : u ∈ Ns) : u.x ≠ q := fun e => by
  obtain ⟨a, b, e2⟩ := h.isNode h2
  rw [e, h.head] at e2
  injection e2 with e2
  injection e2 with _ e3 _
  exact absurd e3 (by decide)
theorem nodeO_inj {p p' : Nat} {a b a' b' : Option Nat} (h : nodeO p a b = nodeO p' a' b') : p = p' := by
  unfold nodeO at h
  simp only [Obj.cells.injEq, Array.mk.injEq, List.cons.injEq, Value.pointer.injEq, Option.some.injEq, Addr.mk.injEq] at h
  exact h.1.1.1
theorem QRow.xs (h : QRow w q Ns n) : Ns.Pairwise fun a b => a.x ≠ b.x := by
  refine List.Pairwise.imp_of_mem (fun {a b} ha hb hab e => ?_) h.apart
  obtain ⟨a1, b1, e1⟩ := h.isNode ha
  obtain ⟨a2, b2, e2⟩ := h.isNode hb
  rw [e, e2] at e1
  have hp := nodeO_inj (Option.some.inj e1)
  exact hab _ ((h.packs a ha).head) (by rw [← hp]; exact (h.packs b hb).head)
theorem QRow.foot_lt (h : QRow w q Ns n) {k : Nat} (hk : foot q Ns k) : k < w.heap.size := by
  rcases hk with rfl | ⟨nd, hm, rfl | hF⟩
  · exact heap_lt h.head
  · obtain ⟨a, b, e⟩ := h.isNode hm; exact heap_lt e
  · exact (h.packs nd hm).lt hF
theorem QRow.chg (h : QRow w q Ns n) {S : Nat → Prop} (hc : Chg S w w') (hn : ∀ k, foot q Ns k → ¬ S k) : QRow w' q Ns n where
  head := hc.keep h.head (hn q (.inl rfl))
  chain := h.chain.keep fun nd hm => by
    obtain ⟨a, b, e⟩ := h.isNode hm
    rw [e]; exact hc.keep e (hn _ (.inr ⟨nd, hm, .inl rfl⟩))
  packs := fun nd hm => (h.packs nd hm).chg hc fun k hk => hn k (.inr ⟨nd, hm, .inr hk⟩)
  apart := h.apart
theorem QRow.below (h : QRow w q Ns n) (hb : Below w.heap.size w w') : QRow w' q Ns n := h.chg (Chg.of_below (fun _ => False) hb) fun _ _ => id
/-- Packs have changed, the chain has not. -/
theorem QRow.repack (h : QRow w q Ns n) {Ms : List Nd} {S : Nat → Prop} (hk : Ns.map key = Ms.map key) (hc : Chg S w w') (hs : ∀ k, S k → ∃ nd ∈ Ns, nd.F k) (hp : ∀ nd ∈ Ms, PackF w' nd.p nd.F nd.T) (ha : ApartN Ms) : QRow w' q Ms n where
  head := by
    rw [← hdO_key none hk, ← lstO_key none hk]
    exact hc.keep h.head fun hS => by obtain ⟨nd, hm, hF⟩ := hs q hS; exact h.q_nF hm hF
  chain := by
    refine (h.chain.keep fun nd hm => ?_).key hk
    obtain ⟨a, b, e⟩ := h.isNode hm
    rw [e]; exact hc.keep e fun hS => by obtain ⟨u, hu, hF⟩ := hs _ hS; exact h.x_nF hm hu hF
  packs := hp
  apart := ha
theorem apart_mid : ApartN (A ++ nd :: B) ↔ ApartN A ∧ ApartN B ∧ (∀ u ∈ A, ∀ k, u.F k → ¬ nd.F k) ∧ (∀ u ∈ B, ∀ k, nd.F k → ¬ u.F k) ∧ ∀ u ∈ A, ∀ v ∈ B, ∀ k, u.F k → ¬ v.F k := by
  unfold ApartN
  simp only [List.pairwise_append, List.pairwise_cons, List.mem_cons]
  constructor
  · rintro ⟨h1, ⟨h2, h3⟩, h4⟩
    exact ⟨h1, h3, fun u hu => h4 u hu nd (.inl rfl), h2, fun u hu v hv => h4 u hu v (.inr hv)⟩
  · rintro ⟨h1, h2, h3, h4, h5⟩
    exact ⟨h1, ⟨h4, h2⟩, fun u hu v hv => hv.elim (fun e => e ▸ h3 u hu) (h5 u hu v)⟩
/-- One pack has changed. -/
theorem QRow.setPack (h : QRow w q (A ++ nd :: B) n) {F' : Nat → Prop} {T' : List ByteArray} (hc : Chg nd.F w w') (hp : PackF w' nd.p F' T') (hf : Fresh w nd.F F') : QRow w' q (A ++ ⟨nd.x, nd.p, F', T'⟩ :: B) n := by
  have ha := apart_mid.1 h.apart
  have hmem : ∀ u ∈ A, u ∈ A ++ nd :: B := fun u hu => by simp [hu]
  have hmem2 : ∀ u ∈ B, u ∈ A ++ nd :: B := fun u hu => by simp [hu]
  refine h.repack (S := nd.F) (by simp [key]) hc (fun k hk => ⟨nd, by simp, hk⟩) (fun u hu => ?_) ?_
  · rcases List.mem_append.1 hu with hu | hu
    · exact (h.packs u (hmem u hu)).chg hc (ha.2.2.1 u hu)
    · rcases List.mem_cons.1 hu with rfl | hu
      · exact hp
      · exact (h.packs u (hmem2 u hu)).chg hc fun k hk hS => ha.2.2.2.1 u hu k hS hk
  · refine apart_mid.2 ⟨ha.1, ha.2.1, fun u hu k hk hF => ?_, fun u hu k hF hk => ?_, ha.2.2.2.2⟩
    · rcases hf k hF with h1 | h1
      · exact ha.2.2.1 u hu k hk h1
      · have := (h.packs u (hmem u hu)).lt hk; omega
    · rcases hf k hF with h1 | h1
      · exact ha.2.2.2.1 u hu k h1 hk
      · have := (h.packs u (hmem2 u hu)).lt hk; omega
/-- The count has been written. -/
theorem QRow.setN (h : QRow w q Ns n) (m : Int) : QRow (w.setCell ⟨q, 3, none⟩ (.int .i64 m)) q Ns m := by
  have hh := setCell_head h.head 3 (.int .i64 m)
  have hc : Chg (fun k => k = q) w (w.setCell ⟨q, 3, none⟩ (.int .i64 m)) := Chg.setCell _ _ _ _ rfl
  refine ⟨hh, h.chain.keep fun nd hm => ?_, fun nd hm => (h.packs nd hm).chg hc fun k hk e => ?_, h.apart⟩
  · obtain ⟨a, b, e⟩ := h.isNode hm
    rw [e]; exact hc.keep e (h.q_nx hm)
  · subst e; exact h.q_nF hm hk
end
end Go.Proofs.YtfbhddllimfdlaaDoor

/- quick: a node comes, a node goes: what the writes make. -/
namespace Go.Proofs.YtfbhddllimfdlaaDoor
set_option linter.unusedVariables false
set_option linter.unusedSimpArgs false
open Go.RowKit
section
variable {w w' : World} {q : Nat} {Ns A B : List Nd} {nd u : Nd} {n : Int} {S : Nat → Prop}
theorem xs_mid (h : (A ++ nd :: B).Pairwise fun a b => a.x ≠ b.x) : (∀ u ∈ A, u.x ≠ nd.x) ∧ (∀ v ∈ B, nd.x ≠ v.x) ∧ (∀ u ∈ A, ∀ v ∈ B, u.x ≠ v.x) := by
  simp only [List.pairwise_append, List.pairwise_cons, List.mem_cons] at h
  exact ⟨fun u hu => h.2.2 u hu nd (.inl rfl), h.2.1.1, fun u hu v hv => h.2.2 u hu v (.inr hv)⟩
theorem QRow.packs_keep (h : QRow w q Ns n) (hc : Chg S w w') (hs : ∀ k, S k → k = q ∨ ∃ u ∈ Ns, k = u.x) (hm : nd ∈ Ns) : PackF w' nd.p nd.F nd.T :=
  (h.packs nd hm).chg hc fun k hk hS => by
    rcases hs k hS with rfl | ⟨u, hu, rfl⟩
    · exact h.q_nF hm hk
    · exact h.x_nF hu hm hk
/-- A node comes behind another one. -/
theorem QRow.link (h : QRow w q (A ++ nd :: B) n) (hc : Chg S w w') (hs : ∀ k, S k → k = q ∨ k = nd.x ∨ ∃ v B', B = v :: B' ∧ k = v.x) {y p : Nat} {F : Nat → Prop}
    (hQ : w'.heap[q]? = some (quickO (hdO (A ++ nd :: B) none) (lstO none (A ++ nd :: ⟨y, p, F, []⟩ :: B)) n)) (hX : w'.heap[nd.x]? = some (nodeO nd.p (lstO none A) (some y)))
    (hY : w'.heap[y]? = some (nodeO p (some nd.x) (hdO B none))) (hV : ∀ v B', B = v :: B' → w'.heap[v.x]? = some (nodeO v.p (some y) (hdO B' none)))
    (hp : PackF w' p F []) (hF : ∀ u ∈ A ++ nd :: B, ∀ k, u.F k → ¬ F k) : QRow w' q (A ++ nd :: ⟨y, p, F, []⟩ :: B) n := by
  have hx := xs_mid h.xs
  have hs' : ∀ k, S k → k = q ∨ ∃ u ∈ A ++ nd :: B, k = u.x := fun k hk => by
    rcases hs k hk with e | e | ⟨v, B', e1, e⟩
    · exact .inl e
    · exact .inr ⟨nd, by simp, e⟩
    · exact .inr ⟨v, by simp [e1], e⟩
  obtain ⟨c1, c2, c3⟩ := (chain_append A none).1 h.chain
  have hkeep : ∀ u ∈ A ++ nd :: B, u.x ≠ nd.x → (∀ v B', B = v :: B' → u.x ≠ v.x) → w'.heap[u.x]? = w.heap[u.x]? := fun u hu h1 h2 => by
    obtain ⟨a, b, e⟩ := h.isNode hu
    rw [e]; refine hc.keep e fun hS => ?_
    rcases hs _ hS with e | e | ⟨v, B', e1, e⟩
    · exact h.q_nx hu e
    · exact h1 e
    · exact h2 v B' e1 e
  refine ⟨?_, (chain_append A none).2 ⟨?_, hX, hY, ?_⟩, fun u hu => ?_, ?_⟩
  · rw [hQ]; congr 2; rw [hdO_append, hdO_append]; rfl
  · exact c1.keep fun u hu => hkeep u (by simp [hu]) (hx.1 u hu) fun v B' e => hx.2.2 u hu v (by simp [e])
  · cases B with
    | nil => trivial
    | cons v B' =>
      have hxB : ∀ u ∈ B', v.x ≠ u.x := by
        have := h.xs
        simp only [List.pairwise_append, List.pairwise_cons] at this
        exact this.2.1.2.1
      exact ⟨hV v B' rfl, c3.2.keep fun u hu => hkeep u (by simp [hu]) (fun e => hx.2.1 u (by simp [hu]) e.symm) fun v2 B2 e => by
        obtain ⟨rfl, rfl⟩ := List.cons.inj e
        exact fun e => hxB u hu e.symm⟩
  · simp only [List.mem_append, List.mem_cons] at hu
    rcases hu with hu | rfl | rfl | hu
    · exact h.packs_keep hc hs' (by simp [hu])
    · exact h.packs_keep hc hs' (by simp)
    · exact hp
    · exact h.packs_keep hc hs' (by simp [hu])
  · have ha := apart_mid.1 h.apart
    rw [show A ++ nd :: ⟨y, p, F, []⟩ :: B = (A ++ [nd]) ++ ⟨y, p, F, []⟩ :: B by simp]
    refine apart_mid.2 ⟨?_, ha.2.1, fun u hu k hk hF2 => hF u (by simp at hu ⊢; rcases hu with hu | hu <;> simp [hu]) k hk hF2, fun u hu k h1 h2 => hF u (by simp [hu]) k h2 h1, fun u hu v hv k h1 h2 => ?_⟩
    · exact apart_mid.2 ⟨ha.1, List.Pairwise.nil, ha.2.2.1, by simp, by simp⟩
    · rcases List.mem_append.1 hu with hu | hu
      · exact ha.2.2.2.2 u hu v hv k h1 h2
      · rw [List.mem_singleton] at hu; subst hu; exact ha.2.2.2.1 v hv k h1 h2
/-- The first node comes. -/
theorem QRow.link0 (h : QRow w q [] n) (hc : Chg (fun k => k = q) w w') {y p : Nat} {F : Nat → Prop} (hQ : w'.heap[q]? = some (quickO (some y) (some y) n)) (hY : w'.heap[y]? = some (nodeO p none none)) (hp : PackF w' p F []) : QRow w' q [⟨y, p, F, []⟩] n :=
  ⟨hQ, ⟨hY, trivial⟩, fun u hu => by rw [List.mem_singleton] at hu; subst hu; exact hp, List.pairwise_singleton _ _⟩
/-- A node goes. -/
theorem QRow.unlink (h : QRow w q (A ++ nd :: B) n) (hc : Chg S w w') (hs : ∀ k, S k → k = q ∨ (∃ A' u, A = A' ++ [u] ∧ k = u.x) ∨ ∃ v B', B = v :: B' ∧ k = v.x)
    (hQ : w'.heap[q]? = some (quickO (hdO (A ++ B) none) (lstO none (A ++ B)) n)) (hU : ∀ A' u, A = A' ++ [u] → w'.heap[u.x]? = some (nodeO u.p (lstO none A') (hdO B none)))
    (hV : ∀ v B', B = v :: B' → w'.heap[v.x]? = some (nodeO v.p (lstO none A) (hdO B' none))) : QRow w' q (A ++ B) n := by
  have hx := xs_mid h.xs
  have hs' : ∀ k, S k → k = q ∨ ∃ u ∈ A ++ nd :: B, k = u.x := fun k hk => by
    rcases hs k hk with e | ⟨A', u, e1, e⟩ | ⟨v, B', e1, e⟩
    · exact .inl e
    · exact .inr ⟨u, by simp [e1], e⟩
    · exact .inr ⟨v, by simp [e1], e⟩
  obtain ⟨c1, c2, c3⟩ := (chain_append A none).1 h.chain
  have hxs := h.xs
  simp only [List.pairwise_append, List.pairwise_cons] at hxs
  have hkeep : ∀ u ∈ A ++ nd :: B, (∀ A' v, A = A' ++ [v] → u.x ≠ v.x) → (∀ v B', B = v :: B' → u.x ≠ v.x) → w'.heap[u.x]? = w.heap[u.x]? := fun u hu h1 h2 => by
    obtain ⟨a, b, e⟩ := h.isNode hu
    rw [e]; refine hc.keep e fun hS => ?_
    rcases hs _ hS with e | ⟨A', v, e1, e⟩ | ⟨v, B', e1, e⟩
    · exact h.q_nx hu e
    · exact h1 A' v e1 e
    · exact h2 v B' e1 e
  refine ⟨hQ, (chain_append A none).2 ⟨?_, ?_⟩, fun u hu => h.packs_keep hc hs' (by simp only [List.mem_append, List.mem_cons] at hu ⊢; rcases hu with hu | hu <;> simp [hu]), ?_⟩
  · rcases List.eq_nil_or_concat A with rfl | ⟨A', u, e⟩
    · trivial
    · rw [List.concat_eq_append] at e
      subst e
      obtain ⟨d1, _⟩ := (chain_append A' none).1 c1
      refine (chain_append A' none).2 ⟨d1.keep fun v hv => hkeep v (by simp [hv]) (fun A2 v2 e => ?_) fun v2 B' e => hx.2.2 v (by simp [hv]) v2 (by simp [e]), ?_, trivial⟩
      · have hvu : v.x ≠ u.x := by
          have := hxs.1
          simp only [List.pairwise_append, List.mem_singleton] at this
          exact this.2.2 v hv u rfl
        obtain ⟨_, e2⟩ := List.append_inj' e rfl
        rw [← List.head_eq_of_cons_eq e2]
        exact hvu
      · exact hU A' u rfl
  · cases B with
    | nil => trivial
    | cons v B' =>
      refine ⟨hV v B' rfl, c3.2.keep fun u hu => hkeep u (by simp [hu]) (fun A' v2 e e2 => hx.2.2 v2 (by simp [e]) u (by simp [hu]) e2.symm) fun v2 B2 e => ?_⟩
      obtain ⟨rfl, rfl⟩ := List.cons.inj e
      exact fun e => (List.pairwise_cons.1 hxs.2.1.2).1 u hu e.symm
  · have ha := apart_mid.1 h.apart
    exact List.pairwise_append.2 ⟨ha.1, ha.2.1, fun u hu v hv => ha.2.2.2.2 u hu v hv⟩
end
end Go.Proofs.YtfbhddllimfdlaaDoor

/- quick: each, find, Packs. -/
namespace Go.Proofs.YtfbhddllimfdlaaDoor
set_option linter.unusedVariables false
set_option linter.unusedSimpArgs false
open Go.RowKit
/-- How many nodes from here on. -/
def posX : List Nd → Option Nat → Nat
  | [], _ => 0
  | nd :: l, o => if some nd.x = o then l.length + 1 else posX l o
theorem posX_none : ∀ l, posX l none = 0
  | [] => rfl
  | nd :: l => by simp [posX, posX_none l]
theorem posX_hd : ∀ {A B : List Nd}, ((A ++ B).Pairwise fun a b => a.x ≠ b.x) → posX (A ++ B) (hdO B none) = B.length
  | [], [], _ => rfl
  | [], nd :: B, _ => by simp [posX, hdO]
  | u :: A, B, h => by
    have h' := List.pairwise_cons.1 h
    have ih := posX_hd (A := A) (B := B) h'.2
    cases B with
    | nil => simp [hdO, posX_none]
    | cons nd B =>
      have := h'.1 nd (by simp)
      simp only [List.cons_append, posX, hdO] at ih ⊢
      rw [if_neg (by simp; exact this)]
      exact ih
def ptrX : Value → Option Nat
  | .pointer (some a) => some a.block
  | _ => none
@[simp] theorem ptrX_ptrO (o : Option Nat) : ptrX (ptrO o) = o := by cases o <;> rfl
abbrev pv (x : Nat) : Value := .pointer (some ⟨x, 0, none⟩)
theorem hdO_nilO : ptrO (hdO [] none) = .pointer none := rfl
theorem hdO_cons (nd : Nd) (l : List Nd) (b : Option Nat) : ptrO (hdO (nd :: l) b) = pv nd.x := rfl
set_option maxHeartbeats 1600000 in
set_option maxRecDepth 100000 in
theorem each_any (fid : FuncId) (caps : Array Value) {w : World} {q : Nat} {Ns : List Nd} {n : Int} (I : List Nd → World → Prop) (R : World → Prop)
    (hce : ∀ (w : World) (args : Array Value), (callFunc fid args).run Tryd.prog w = .ok (.enter fid args) w)
    (hrow : ∀ A w', I A w' → QRow w' q Ns n)
    (hstep : ∀ A nd B, Ns = A ++ nd :: B → ∀ w', I A w' → Calls Tryd.prog fid (#[pv nd.x] ++ caps) w' fun e w'' => (e = .returned (.bool true) ∧ I (A ++ [nd]) w'') ∨ (e = .returned (.bool false) ∧ R w''))
    (h0 : I [] w) :
    Calls Tryd.prog 67 #[pv q, .func (.func fid) #[] caps] w fun e w' => (∃ v, e = .returned v) ∧ (I Ns w' ∨ R w') := by
  have HR := Lib.hid hrow
  have HS := Lib.hid hstep
  have H0 := Lib.hid h0
  have x1 := cell_in (hrow _ _ h0).head (i := 1) rfl
  clear hrow hstep h0
  go_enter Tryd.func67, Tryd.ntmps67
  go_wp2_with fail
  go_loopw [4] (fun x wr => ∃ A B, Ns = A ++ B ∧ x = ptrO (hdO B none) ∧ Hid (I A wr)) (fun x _ => posX Ns (ptrX x))
  case atStart => exact ⟨[], Ns, rfl, rfl, H0⟩
  case round =>
    obtain ⟨A, B, hAB, rfl, hI⟩ := hrel
    cases B with
    | nil =>
      rw [List.append_nil] at hAB
      subst hAB
      rw [hdO_nilO]
      go_wp2_with fail
      go_end0
      exact ⟨⟨_, rfl⟩, .inl hI.out⟩
    | cons nd B =>
      have HC := Lib.hid (HS.out A nd B hAB wr hI.out)
      have HX := Lib.hid (show posX Ns (some nd.x) = B.length + 1 ∧ posX Ns (hdO B none) = B.length from by
        have hx := (HR.out A wr hI.out).xs
        rw [hAB] at hx ⊢
        refine ⟨by rw [show some nd.x = hdO (nd :: B) none from rfl, posX_hd hx, List.length_cons], ?_⟩
        have := posX_hd (A := A ++ [nd]) (B := B) (by simpa using hx)
        simpa using this)
      rw [hdO_cons]
      go_wp2_with fail
      refine HC.out.mono ?_
      rintro e w2 (⟨rfl, i2⟩ | ⟨rfl, r2⟩)
      · have hn := (HR.out _ w2 i2)
        rw [hAB] at hn
        have x2 := cell_in hn.node (i := 2) rfl
        have HI2 := Lib.hid i2
        have HAB := Lib.hid hAB
        clear hn i2 hAB
        go_wp2_with fail
        go_roundw
        case rel => exact ⟨A ++ [nd], B, by rw [HAB.out]; simp, rfl, HI2⟩
        case measure =>
          simp only [ptrX_ptrO]
          have := HX.out
          show posX Ns (hdO B none) < posX Ns (some nd.x)
          omega
      · have HR2 := Lib.hid r2
        clear r2
        go_wp2_with fail
        refine bodyPost_ret (results_none rfl _ _ _) rfl ?_
        exact ⟨⟨_, rfl⟩, .inr HR2.out⟩
end Go.Proofs.YtfbhddllimfdlaaDoor

/- quick: find. -/
namespace Go.Proofs.YtfbhddllimfdlaaDoor
set_option linter.unusedVariables false
set_option linter.unusedSimpArgs false
open Go.RowKit
abbrev intO (n : Int) : Obj := .cells #[.int .i64 n] 3 (0, 0)
abbrev nptrO (o : Option Nat) : Obj := .cells #[ptrO o] 89 (0, 0)
set_option maxHeartbeats 1600000 in
set_option maxRecDepth 100000 in
theorem find1_any {w : World} {x p : Nat} {F : Nat → Prop} {T : List ByteArray} {a b : Option Nat} (hn : w.heap[x]? = some (nodeO p a b)) (hp : PackF w p F T) {c c1 c2 m : Nat} (hm : m < 9223372036854775808)
    (h0 : w.heap[c]? = some (intO m)) (h1 : w.heap[c1]? = some (nptrO none)) (h2 : w.heap[c2]? = some (intO 0)) (hd1 : c ≠ c1) (hd2 : c ≠ c2) (hd3 : c1 ≠ c2) :
    Calls Tryd.prog 100 #[pv x, pv c, pv c1, pv c2] w fun e w' => Chg (fun k => k = c ∨ k = c1 ∨ k = c2) w w' ∧
      ((T.length < m ∧ e = .returned (.bool true) ∧ w'.heap[c]? = some (intO ((m - T.length : Nat) : Int)) ∧ w'.heap[c1]? = some (nptrO none) ∧ w'.heap[c2]? = some (intO 0)) ∨
       (m ≤ T.length ∧ e = .returned (.bool false) ∧ w'.heap[c1]? = some (nptrO (some x)) ∧ w'.heap[c2]? = some (intO m))) := by
  have x0 := cell_in hn (i := 0) rfl
  have y0 := cell_in h0 (i := 0) rfl
  have y1 := cell_in h1 (i := 0) rfl
  have y2 := cell_in h2 (i := 0) rfl
  have f0 := frozen_in h0 0
  have f1 := frozen_in h1 0
  have f2 := frozen_in h2 0
  have HL := Lib.hid (packLen hp)
  have hmany := hp.ok.many
  obtain ⟨n, hnT⟩ : ∃ n, T.length = n := ⟨_, rfl⟩
  rw [hnT] at HL hmany ⊢
  have H := Lib.hid (And.intro h0 (And.intro h1 h2))
  clear hn hp h0 h1 h2 hnT
  by_cases hlt : n < m
  · have hd : decide ((n : Int) < (m : Int)) = true := by simp; omega
    have HE := Lib.hid (show Chg (fun k => k = c ∨ k = c1 ∨ k = c2) w (w.setCell ⟨c, 0, none⟩ (.int .i64 ((m : Int) - (n : Int)))) ∧ (w.setCell ⟨c, 0, none⟩ (.int .i64 ((m : Int) - (n : Int)))).heap[c]? = some (intO ((m - n : Nat) : Int)) ∧ (w.setCell ⟨c, 0, none⟩ (.int .i64 ((m : Int) - (n : Int)))).heap[c1]? = some (nptrO none) ∧ (w.setCell ⟨c, 0, none⟩ (.int .i64 ((m : Int) - (n : Int)))).heap[c2]? = some (intO 0) from by
      have hc : Chg (fun k => k = c) w (w.setCell ⟨c, 0, none⟩ (.int .i64 ((m : Int) - (n : Int)))) := Chg.setCell _ _ _ _ rfl
      refine ⟨hc.mono fun k hk _ => .inl hk, ?_, hc.keep H.out.2.1 (Ne.symm hd1), hc.keep H.out.2.2 (Ne.symm hd2)⟩
      rw [setCell_head H.out.1, show ((m - n : Nat) : Int) = (m : Int) - (n : Int) by omega]; rfl)
    go_enter Tryd.func100, Tryd.ntmps100
    go_wp2_with fail
    refine HL.out.mono ?_
    rintro e w1 ⟨rfl, rfl⟩
    go_wp2_with fail
    go_ret
    exact ⟨HE.out.1, .inl ⟨hlt, rfl, HE.out.2⟩⟩
  · have hd : decide ((n : Int) < (m : Int)) = false := by simp; omega
    go_enter Tryd.func100, Tryd.ntmps100
    go_wp2_with fail
    refine HL.out.mono ?_
    rintro e w1 ⟨rfl, rfl⟩
    go_wp2_with fail
    obtain ⟨wr, hwr⟩ : ∃ wr, wr = ((w.setCell ⟨c1, 0, none⟩ (pv x)).setCell ⟨c2, 0, none⟩ (.int .i64 m)).drew := ⟨_, rfl⟩
    have HF := Lib.hid (show Chg (fun k => k = c ∨ k = c1 ∨ k = c2) w wr ∧ wr.heap[c1]? = some (nptrO (some x)) ∧ wr.heap[c2]? = some (intO m) from by
      have e1 := setCell_head H.out.2.1 0 (pv x)
      have k1 : Chg (fun k => k = c1) w (w.setCell ⟨c1, 0, none⟩ (pv x)) := Chg.setCell _ _ _ _ rfl
      have k2 : Chg (fun k => k = c2) (w.setCell ⟨c1, 0, none⟩ (pv x)) wr := by rw [hwr]; exact (Chg.setCell (fun k => k = c2) _ ⟨c2, 0, none⟩ _ rfl).trans (Chg.drew (fun k => k = c2) _) fun _ h _ => h
      refine ⟨(k1.mono fun k hk _ => .inr (.inl hk)).trans k2 fun k hk _ => .inr (.inr hk), k2.keep e1 hd3, ?_⟩
      rw [hwr]
      exact setCell_head (k1.keep H.out.2.2 (Ne.symm hd3)) 0 _)
    have HW := Lib.hid hwr
    clear hwr
    go_region
    rw [← HW.out]
    go_wp2_with fail
    go_ret
    exact ⟨HF.out.1, .inr ⟨by omega, rfl, HF.out.2⟩⟩
/-- Where a place is. -/
structure At (Ns : List Nd) (m : Nat) (A : List Nd) (nd : Nd) (B : List Nd) (pl : Nat) : Prop where
  eq : Ns = A ++ nd :: B
  sum : (flatN A).length + pl = m
  le : pl ≤ nd.T.length
  pos : 0 < m → 0 < pl
set_option maxHeartbeats 1600000 in
set_option maxRecDepth 100000 in
theorem find_any {w : World} {q : Nat} {Ns : List Nd} {n : Int} (h : QRow w q Ns n) (m : Nat) (hm : m ≤ (flatN Ns).length) (hm2 : m < 9223372036854775808) :
    Calls Tryd.prog 72 #[pv q, .int .i64 m] w fun e w' => ((Ns = [] ∧ e = .returned (.tuple #[.pointer none, .int .i64 0])) ∨ ∃ A nd B pl, At Ns m A nd B pl ∧ e = .returned (.tuple #[pv nd.x, .int .i64 pl])) ∧ Below w.heap.size w w' := by
  obtain ⟨w3, hw3⟩ : ∃ w3, w3 = ((w.alloc (.cells #[.int .i64 m] 3)).alloc (.cells #[.pointer none] 89)).alloc (.cells #[.int .i64 0] 3) := ⟨_, rfl⟩
  have e1 : w3.heap[w.heap.size]? = some (intO m) := by rw [hw3]; exact heap_old (heap_old (heap_new w _) _) _
  have e2 : w3.heap[w.heap.size + 1]? = some (nptrO none) := by
    have := heap_old (heap_new (w.alloc (.cells #[.int .i64 m] 3)) (.cells #[.pointer none] 89)) (.cells #[.int .i64 0] 3)
    rw [World.size_alloc] at this
    rw [hw3]; exact this
  have e3 : w3.heap[w.heap.size + 1 + 1]? = some (intO 0) := by
    have := heap_new ((w.alloc (.cells #[.int .i64 m] 3)).alloc (.cells #[.pointer none] 89)) (.cells #[.int .i64 0] 3)
    rw [World.size_alloc, World.size_alloc] at this
    rw [hw3]; exact this
  have hb3 : Below w.heap.size w w3 := by rw [hw3]; exact (((Below.refl w.heap.size w).alloc (Nat.le_refl _) _).alloc (by simp) _).alloc (by simp; omega) _
  have HE := Lib.hid (each_any 100 #[pv w.heap.size, pv (w.heap.size + 1), pv (w.heap.size + 1 + 1)] (w := w3) (q := q) (Ns := Ns) (n := n)
    (fun A w' => Below w.heap.size w w' ∧ (A = [] ∨ (flatN A).length < m) ∧ w.heap.size + 3 ≤ w'.heap.size ∧ w'.heap[w.heap.size]? = some (intO ((m - (flatN A).length : Nat) : Int)) ∧ w'.heap[w.heap.size + 1]? = some (nptrO none) ∧ w'.heap[w.heap.size + 1 + 1]? = some (intO 0))
    (fun w' => ∃ A nd B pl, At Ns m A nd B pl ∧ Below w.heap.size w w' ∧ w'.heap[w.heap.size + 1]? = some (nptrO (some nd.x)) ∧ w'.heap[w.heap.size + 1 + 1]? = some (intO pl))
    (fun _ _ => rfl) (fun A w' hI => h.below hI.1) (fun A nd B hAB w' hI => by
      obtain ⟨i1, i2, i3, i4, i5, i6⟩ := hI
      have hq := h.below i1
      rw [hAB] at hq
      refine (find1_any hq.node (hq.packs nd (by simp)) (by omega) i4 i5 i6 (by omega) (by omega) (by omega)).mono fun e w'' ⟨hc, hp⟩ => ?_
      have hb : Below w.heap.size w w'' := belowChg i1 hc (by omega) fun k hk _ => by omega
      rcases hp with ⟨p1, rfl, p3, p4, p5⟩ | ⟨p1, rfl, p3, p4⟩
      · refine .inl ⟨rfl, hb, .inr ?_, Nat.le_trans i3 hc.size, ?_, p4, p5⟩
        · rw [flat_append, flat_cons, flat_nil, List.append_nil, List.length_append]
          rcases i2 with rfl | i2
          · simpa using p1
          · omega
        · rw [p3]
          congr 3
          rw [flat_append, flat_cons, flat_nil, List.append_nil, List.length_append]
          omega
      · refine .inr ⟨rfl, A, nd, B, m - (flatN A).length, ⟨hAB, ?_, p1, fun hm => ?_⟩, hb, p3, p4⟩
        · rcases i2 with rfl | i2
          · simp
          · omega
        · rcases i2 with rfl | i2
          · simpa using hm
          · omega)
    ⟨hb3, .inl rfl, by rw [hw3]; simp, by simpa using e1, e2, e3⟩)
  have HW := Lib.hid hw3
  have HM := Lib.hid (And.intro h (And.intro hm hb3))
  clear hw3 e1 e2 e3 hb3 h hm
  go_enter Tryd.func72, Tryd.ntmps72
  go_upto_region 1 with (fail)
  rw [← HW.out]
  go_wp2_with fail
  refine HE.out.mono ?_
  rintro e w4 ⟨⟨v, rfl⟩, hpost⟩
  have HP := Lib.hid (show ∃ (o : Option Nat) (pl : Nat), (w4.heap[w.heap.size + 1]? = some (nptrO o) ∧ w4.heap[w.heap.size + 1 + 1]? = some (intO pl)) ∧ Below w.heap.size w w4 ∧ ((Ns = [] ∧ o = none ∧ pl = 0) ∨ ∃ A nd B, At Ns m A nd B pl ∧ o = some nd.x) from by
    rcases hpost with ⟨i1, i2, i3, i4, i5, i6⟩ | ⟨A, nd, B, pl, a1, a2, a3, a4⟩
    · refine ⟨none, 0, ⟨i5, i6⟩, i1, .inl ⟨?_, rfl, rfl⟩⟩
      rcases i2 with i2 | i2
      · exact i2
      · have := HM.out.2.1; omega
    · exact ⟨_, pl, ⟨a3, a4⟩, a2, .inr ⟨A, nd, B, a1, rfl⟩⟩)
  clear hpost
  obtain ⟨o, pl, hc, hb, hd⟩ := HP.out
  obtain ⟨wr, hwr⟩ : ∃ wr, wr = ((w4.setCell ⟨w.heap.size + 1, 0, none⟩ (ptrO o)).setCell ⟨w.heap.size + 1 + 1, 0, none⟩ (.int .i64 pl)).drew := ⟨_, rfl⟩
  have HR := Lib.hid (show Below w.heap.size w wr ∧ wr.cell? ⟨w.heap.size + 1, 0, none⟩ = some (ptrO o) ∧ wr.cell? ⟨w.heap.size + 1 + 1, 0, none⟩ = some (.int .i64 pl) from by
    have k1 : Chg (fun k => w.heap.size ≤ k) w4 (w4.setCell ⟨w.heap.size + 1, 0, none⟩ (ptrO o)) := Chg.setCell _ _ _ _ (show w.heap.size ≤ w.heap.size + 1 by omega)
    have k0 : Chg (fun k => k = w.heap.size + 1) w4 (w4.setCell ⟨w.heap.size + 1, 0, none⟩ (ptrO o)) := Chg.setCell _ _ _ _ rfl
    have k2 : Chg (fun k => k = w.heap.size + 1 + 1) (w4.setCell ⟨w.heap.size + 1, 0, none⟩ (ptrO o)) wr := by rw [hwr]; exact (Chg.setCell (fun k => k = w.heap.size + 1 + 1) _ ⟨w.heap.size + 1 + 1, 0, none⟩ _ rfl).trans (Chg.drew (fun k => k = w.heap.size + 1 + 1) _) fun _ h _ => h
    have hs := heap_lt hc.1
    refine ⟨belowChg (belowChg hb k1 (by omega) fun k hk _ => hk) k2 (by have := k0.size; omega) fun k hk _ => by omega, ?_, ?_⟩
    · exact cell_in (k2.keep (setCell_head hc.1 0 (ptrO o)) (by omega)) rfl
    · rw [hwr]
      exact cell_in (setCell_head (k0.keep hc.2 (by omega)) 0 _) rfl)
  have y1 : w4.cell? ⟨w.heap.size + 1, 0, none⟩ = some (ptrO o) := cell_in hc.1 (i := 0) rfl
  have y2 := cell_in hc.2 (i := 0) rfl
  have f1 := frozen_in hc.1 0
  have f2 := frozen_in hc.2 0
  have HW2 := Lib.hid hwr
  have HD := Lib.hid hd
  have hne : w.heap.size + 1 ≠ w.heap.size + 1 + 1 := by omega
  clear hc hb hd hwr HP
  cases o with
  | none =>
    rw [show ptrO none = .pointer none from rfl] at HW2 HR y1
    go_wp2_with fail
    go_region
    rw [← HW2.out]
    go_wp2_with fail
    refine bodyPost_ret (v := .tuple #[.pointer none, .int .i64 pl]) (by have h1 := HR.out.2.1; have h2 := HR.out.2.2; simp [results, Tryd.results72, go_sem, h1, h2]) rfl ⟨?_, HR.out.1⟩
    rcases HD.out with ⟨d1, _, rfl⟩ | ⟨_, _, _, _, d⟩
    · exact .inl ⟨d1, rfl⟩
    · cases d
  | some x =>
    rw [show ptrO (some x) = pv x from rfl] at HW2 HR y1
    go_wp2_with fail
    go_region
    rw [← HW2.out]
    go_wp2_with fail
    refine bodyPost_ret (v := .tuple #[pv x, .int .i64 pl]) (by have h1 := HR.out.2.1; have h2 := HR.out.2.2; simp [results, Tryd.results72, go_sem, h1, h2]) rfl ⟨?_, HR.out.1⟩
    rcases HD.out with ⟨_, d, _⟩ | ⟨A, nd, B, d1, d⟩
    · cases d
    · cases d
      exact .inr ⟨A, nd, B, pl, d1, rfl⟩
end Go.Proofs.YtfbhddllimfdlaaDoor

/- quick: link, unlink. -/
namespace Go.Proofs.YtfbhddllimfdlaaDoor
set_option linter.unusedVariables false
set_option linter.unusedSimpArgs false
open Go.RowKit
theorem node_nF {w : World} {x p p' : Nat} {a b : Option Nat} {F : Nat → Prop} {T : List ByteArray} (hn : w.heap[x]? = some (nodeO p a b)) (hp : PackF w p' F T) : ¬ F x := fun hF => by
  obtain ⟨cs, E, fz, e2, hE⟩ := hp.kind hF
  rw [hn] at e2
  injection e2 with e2
  injection e2 with _ e3 _
  rcases hE with rfl | rfl <;> exact absurd e3 (by decide)
theorem quick_nF {w : World} {q p' : Nat} {a b : Option Nat} {n : Int} {F : Nat → Prop} {T : List ByteArray} (hn : w.heap[q]? = some (quickO a b n)) (hp : PackF w p' F T) : ¬ F q := fun hF => by
  obtain ⟨cs, E, fz, e2, hE⟩ := hp.kind hF
  rw [hn] at e2
  injection e2 with e2
  injection e2 with _ e3 _
  rcases hE with rfl | rfl <;> exact absurd e3 (by decide)
set_option maxHeartbeats 1600000 in
set_option maxRecDepth 100000 in
theorem link_first {w : World} {q : Nat} {n : Int} (h : QRow w q [] n) {p : Nat} {F : Nat → Prop} (hp : PackF w p F []) :
    Calls Tryd.prog 70 #[pv q, .pointer none, pv p] w fun e w' => e = .returned (pv w.heap.size) ∧ QRow w' q [⟨w.heap.size, p, F, []⟩] n ∧ Chg (fun k => k = q) w w' := by
  have hql := heap_lt h.head
  obtain ⟨w1, hw1⟩ : ∃ w1, w1 = w.alloc (.cells #[pv p, .pointer none, .pointer none] 92) := ⟨_, rfl⟩
  have hb1 : Below w.heap.size w w1 := by rw [hw1]; exact (Below.refl _ _).alloc (Nat.le_refl _) _
  have hh1 : w1.heap[w.heap.size]? = some (nodeO p none none) := by rw [hw1]; exact heap_new _ _
  have hq0 := h.head
  have hq1 : w1.heap[q]? = some (quickO none none n) := (hb1.block q hql).trans h.head
  obtain ⟨w2, hw2⟩ : ∃ w2, w2 = w1.setCell ⟨q, 1, none⟩ (pv w.heap.size) := ⟨_, rfl⟩
  have hc2 : Chg (fun k => k = q) w1 w2 := by rw [hw2]; exact Chg.setCell _ _ _ _ rfl
  have hq2 : w2.heap[q]? = some (quickO (some w.heap.size) none n) := by rw [hw2]; exact setCell_head hq1 1 _
  obtain ⟨w3, hw3⟩ : ∃ w3, w3 = w2.setCell ⟨q, 2, none⟩ (pv w.heap.size) := ⟨_, rfl⟩
  have hc3 : Chg (fun k => k = q) w2 w3 := by rw [hw3]; exact Chg.setCell _ _ _ _ rfl
  have hq3 : w3.heap[q]? = some (quickO (some w.heap.size) (some w.heap.size) n) := by rw [hw3]; exact setCell_head hq2 2 _
  have hne : w.heap.size ≠ q := by omega
  have hh2 := hc2.keep hh1 hne
  have hh3 := hc3.keep hh2 hne
  have hc : Chg (fun k => k = q) w w3 := ((Chg.of_below _ hb1).trans hc2 fun k hk _ => hk).trans hc3 fun k hk _ => hk
  have HF := Lib.hid (show QRow w3 q [⟨w.heap.size, p, F, []⟩] n ∧ Chg (fun k => k = q) w w3 from
    ⟨h.link0 hc hq3 hh3 (hp.chg hc fun k hk e => by subst e; exact quick_nF h.head hp hk), hc⟩)
  have a1 := cell_in hq0 (i := 1) rfl
  have b1 := cell_in hq1 (i := 1) rfl
  have f1 := frozen_in hq1 1
  have c2 := cell_in hh2 (i := 2) rfl
  have d2 := cell_in hq2 (i := 2) rfl
  have f2 := frozen_in hq2 2
  have HW1 := Lib.hid hw1
  have HW2 := Lib.hid hw2
  have HW3 := Lib.hid hw3
  simp only [hdO, lstO, ptrO] at a1 b1 c2 d2
  clear h hp hw1 hw2 hw3 hb1 hh1 hq0 hq1 hc2 hq2 hc3 hq3 hh2 hh3 hc
  go_enter Tryd.func70, Tryd.ntmps70
  go_upto_region 2 with (fail)
  rw [← HW1.out]
  go_upto_region 5 with (fail)
  rw [← HW2.out]
  go_wp2_with fail
  rw [← HW3.out]
  go_ret
  exact ⟨rfl, HF.out⟩
set_option maxHeartbeats 1600000 in
set_option maxRecDepth 100000 in
theorem link_mid {w : World} {q : Nat} {A B : List Nd} {nd : Nd} {n : Int} (h : QRow w q (A ++ nd :: B) n) {p : Nat} {F : Nat → Prop} (hp : PackF w p F []) (hF : ∀ u ∈ A ++ nd :: B, ∀ k, u.F k → ¬ F k) :
    Calls Tryd.prog 70 #[pv q, pv nd.x, pv p] w fun e w' => e = .returned (pv w.heap.size) ∧ QRow w' q (A ++ nd :: ⟨w.heap.size, p, F, []⟩ :: B) n ∧ Chg (fun k => k = q ∨ ∃ u ∈ nd :: B, k = u.x) w w' := by
  have hql := heap_lt h.head
  have hnode := h.node
  have hxl := heap_lt hnode
  have hxq : nd.x ≠ q := h.q_nx (by simp)
  obtain ⟨x0, hx0⟩ : ∃ x0, hdO (A ++ nd :: B) none = some x0 := by cases A <;> exact ⟨_, rfl⟩
  have hfv : ptrO (hdO (A ++ nd :: B) none) = pv x0 := by rw [hx0]; rfl
  obtain ⟨nv, hnv⟩ : ∃ nv, ptrO (hdO B none) = nv := ⟨_, rfl⟩
  obtain ⟨av, hav⟩ : ∃ av, ptrO (lstO none A) = av := ⟨_, rfl⟩
  obtain ⟨w1, hw1⟩ : ∃ w1, w1 = w.alloc (.cells #[pv p, pv nd.x, pv x0] 92) := ⟨_, rfl⟩
  have hb1 : Below w.heap.size w w1 := by rw [hw1]; exact (Below.refl _ _).alloc (Nat.le_refl _) _
  have hh1 : w1.heap[w.heap.size]? = some (.cells #[pv p, pv nd.x, pv x0] 92 (0, 0)) := by rw [hw1]; exact heap_new _ _
  have hx1 := (hb1.block nd.x hxl).trans hnode
  obtain ⟨w2, hw2⟩ : ∃ w2, w2 = (w1.setCell ⟨w.heap.size, 2, none⟩ nv).setCell ⟨nd.x, 2, none⟩ (pv w.heap.size) := ⟨_, rfl⟩
  have hxy : nd.x ≠ w.heap.size := by omega
  have hcy : Chg (fun k => k = w.heap.size) w1 (w1.setCell ⟨w.heap.size, 2, none⟩ nv) := Chg.setCell _ _ _ _ rfl
  have hcx : Chg (fun k => k = nd.x) (w1.setCell ⟨w.heap.size, 2, none⟩ nv) w2 := by rw [hw2]; exact Chg.setCell _ _ _ _ rfl
  have hy2 : w2.heap[w.heap.size]? = some (nodeO p (some nd.x) (hdO B none)) := by
    refine hcx.keep ?_ (Ne.symm hxy)
    rw [setCell_head hh1 2 nv, ← hnv]; rfl
  have hx2 : w2.heap[nd.x]? = some (nodeO nd.p (lstO none A) (some w.heap.size)) := by
    rw [hw2, setCell_head (hcy.keep hx1 hxy) 2 _]; rfl
  have hc2 : Chg (fun k => k = nd.x) w w2 := ((Chg.of_below (fun k => k = nd.x) hb1).trans hcy fun k hk hlt => by omega).trans hcx fun k hk _ => hk
  have hq2 := hc2.keep h.head (Ne.symm hxq)
  have a1 : w.cell? ⟨q, 1, none⟩ = some (ptrO (hdO (A ++ nd :: B) none)) := cell_in h.head (i := 1) rfl
  have b2 : w1.cell? ⟨nd.x, 2, none⟩ = some (ptrO (hdO B none)) := cell_in hx1 (i := 2) rfl
  have cy := cell_in hh1 (i := 2) rfl
  have cx := cell_in (hcy.keep hx1 hxy) (i := 2) rfl
  have fy := frozen_in hh1 2
  have fx := frozen_in (hcy.keep hx1 hxy) 2
  have y2 : w2.cell? ⟨w.heap.size, 2, none⟩ = some (ptrO (hdO B none)) := cell_in hy2 (i := 2) rfl
  rw [hfv] at a1
  rw [hnv] at b2 y2
  have HW1 := Lib.hid hw1
  have HW2 := Lib.hid hw2
  have HC2 := Lib.hid hc2
  cases B with
  | nil =>
    obtain ⟨w3, hw3⟩ : ∃ w3, w3 = w2.setCell ⟨q, 2, none⟩ (pv w.heap.size) := ⟨_, rfl⟩
    have hc3 : Chg (fun k => k = q) w2 w3 := by rw [hw3]; exact Chg.setCell _ _ _ _ rfl
    have hq3 : w3.heap[q]? = some (quickO (hdO (A ++ [nd]) none) (some w.heap.size) n) := by rw [hw3, setCell_head hq2 2 _]; rfl
    have hc : Chg (fun k => k = q ∨ k = nd.x) w w3 := (hc2.mono fun k hk _ => .inr hk).trans hc3 fun k hk _ => .inl hk
    have HF := Lib.hid (show QRow w3 q (A ++ [nd, ⟨w.heap.size, p, F, []⟩]) n ∧ Chg (fun k => k = q ∨ ∃ u ∈ [nd], k = u.x) w w3 from by
      refine ⟨h.link hc (fun k hk => hk.imp id .inl) ?_ (hc3.keep hx2 hxq) (hc3.keep hy2 (by omega)) (by simp) (hp.chg hc fun k hk e => ?_) hF, hc.mono fun k hk _ => by simpa using hk⟩
      · rw [hq3]
        congr 2
        rw [show A ++ [nd, (⟨w.heap.size, p, F, []⟩ : Nd)] = (A ++ [nd]) ++ [⟨w.heap.size, p, F, []⟩] by simp, lstO_last]
      · rcases e with rfl | rfl
        · exact quick_nF h.head hp hk
        · exact node_nF hnode hp hk)
    have d2 := cell_in hq2 (i := 2) rfl
    have f2 := frozen_in hq2 2
    have HW3 := Lib.hid hw3
    simp only [hdO, ptrO] at hnv
    subst hnv
    clear h hp hw1 hw2 hw3 hb1 hh1 hnode hx1 hcy hcx hy2 hx2 hc2 hq2 hc3 hq3 hc hF
    go_enter Tryd.func70, Tryd.ntmps70
    go_upto_region 2 with (fail)
    rw [← HW1.out]
    go_upto_region 5 with (fail)
    rw [← HW2.out]
    go_wp2_with fail
    rw [← HW3.out]
    go_ret
    exact ⟨rfl, HF.out⟩
  | cons v B' =>
    have hvl : v ∈ A ++ nd :: v :: B' := by simp
    have hxv : nd.x ≠ v.x := (xs_mid h.xs).2.1 v (by simp)
    have hvn : w.heap[v.x]? = some (nodeO v.p (some nd.x) (hdO B' none)) := by
      have := QRow.node (A := A ++ [nd]) (nd := v) (B := B') (by simpa using h)
      rw [lstO_last] at this
      exact this
    have hv2 := hc2.keep hvn (Ne.symm hxv)
    obtain ⟨w3, hw3⟩ : ∃ w3, w3 = w2.setCell ⟨v.x, 1, none⟩ (pv w.heap.size) := ⟨_, rfl⟩
    have hc3 : Chg (fun k => k = v.x) w2 w3 := by rw [hw3]; exact Chg.setCell _ _ _ _ rfl
    have hv3 : w3.heap[v.x]? = some (nodeO v.p (some w.heap.size) (hdO B' none)) := by rw [hw3, setCell_head hv2 1 _]; rfl
    have hc : Chg (fun k => k = nd.x ∨ k = v.x) w w3 := (hc2.mono fun k hk _ => .inl hk).trans hc3 fun k hk _ => .inr hk
    have HF := Lib.hid (show QRow w3 q (A ++ nd :: ⟨w.heap.size, p, F, []⟩ :: v :: B') n ∧ Chg (fun k => k = q ∨ ∃ u ∈ nd :: v :: B', k = u.x) w w3 from by
      refine ⟨h.link hc (fun k hk => ?_) ?_ (hc3.keep hx2 hxv) (hc3.keep hy2 (by have := heap_lt hvn; omega)) (fun v2 B2 e => ?_) (hp.chg hc fun k hk e => ?_) hF, hc.mono fun k hk _ => .inr ?_⟩
      · rcases hk with rfl | rfl
        · exact .inr (.inl rfl)
        · exact .inr (.inr ⟨v, B', rfl, rfl⟩)
      · rw [hc3.keep hq2 (Ne.symm (h.q_nx hvl))]
        congr 2
        rw [lstO_append, lstO_append]; rfl
      · obtain ⟨rfl, rfl⟩ := List.cons.inj e
        exact hv3
      · rcases e with rfl | rfl
        · exact node_nF hnode hp hk
        · exact node_nF hvn hp hk
      · rcases hk with rfl | rfl
        · exact ⟨nd, by simp, rfl⟩
        · exact ⟨v, by simp, rfl⟩)
    have d2 := cell_in hv2 (i := 1) rfl
    have f2 := frozen_in hv2 1
    have HW3 := Lib.hid hw3
    have hnv' : nv = pv v.x := by rw [← hnv]; rfl
    subst hnv'
    clear h hp hw1 hw2 hw3 hb1 hh1 hnode hx1 hcy hcx hy2 hx2 hc2 hq2 hc3 hc hF hvn hv2 hv3 hnv
    go_enter Tryd.func70, Tryd.ntmps70
    go_upto_region 2 with (fail)
    rw [← HW1.out]
    go_upto_region 5 with (fail)
    rw [← HW2.out]
    go_wp2_with fail
    rw [← HW3.out]
    go_ret
    exact ⟨rfl, HF.out⟩
end Go.Proofs.YtfbhddllimfdlaaDoor

/- quick: unlink. -/
namespace Go.Proofs.YtfbhddllimfdlaaDoor
set_option linter.unusedVariables false
set_option linter.unusedSimpArgs false
open Go.RowKit
set_option maxHeartbeats 3200000 in
set_option maxRecDepth 100000 in
theorem unlink_any {w : World} {q : Nat} {A B : List Nd} {nd : Nd} {n : Int} (h : QRow w q (A ++ nd :: B) n) :
    Calls Tryd.prog 74 #[pv q, pv nd.x] w fun e w' => (∃ v, e = .returned v) ∧ QRow w' q (A ++ B) n ∧ Chg (fun k => k = q ∨ ∃ u ∈ A ++ B, k = u.x) w w' := by
  have hnode := h.node
  have hxq : nd.x ≠ q := h.q_nx (by simp)
  have hxs := xs_mid h.xs
  have n1 : w.cell? ⟨nd.x, 1, none⟩ = some (ptrO (lstO none A)) := cell_in hnode (i := 1) rfl
  have n2 : w.cell? ⟨nd.x, 2, none⟩ = some (ptrO (hdO B none)) := cell_in hnode (i := 2) rfl
  have q1 := cell_in h.head (i := 1) rfl
  have q2 := cell_in h.head (i := 2) rfl
  have fq1 := frozen_in h.head 1
  have fq2 := frozen_in h.head 2
  rcases List.eq_nil_or_concat A with rfl | ⟨A', u, hA⟩
  · cases B with
    | nil =>
      obtain ⟨w2, hw2⟩ : ∃ w2, w2 = w.setCell ⟨q, 1, none⟩ (.pointer none) := ⟨_, rfl⟩
      have hc2 : Chg (fun k => k = q) w w2 := by rw [hw2]; exact Chg.setCell _ _ _ _ rfl
      have hq2 : w2.heap[q]? = some (quickO none (some nd.x) n) := by rw [hw2]; exact setCell_head h.head 1 _
      obtain ⟨w3, hw3⟩ : ∃ w3, w3 = w2.setCell ⟨q, 2, none⟩ (.pointer none) := ⟨_, rfl⟩
      have hc3 : Chg (fun k => k = q) w2 w3 := by rw [hw3]; exact Chg.setCell _ _ _ _ rfl
      have hq3 : w3.heap[q]? = some (quickO none none n) := by rw [hw3]; exact setCell_head hq2 2 _
      have hc : Chg (fun k => k = q) w w3 := hc2.trans hc3 fun _ h _ => h
      have HF := Lib.hid (show QRow w3 q ([] ++ []) n ∧ Chg (fun k => k = q ∨ ∃ u ∈ ([] : List Nd) ++ [], k = u.x) w w3 from
        ⟨h.unlink hc (fun k hk => .inl hk) hq3 (fun A' u e => by simp at e) (fun v B' e => by cases e), hc.mono fun k hk _ => .inl hk⟩)
      have d2 := cell_in hq2 (i := 2) rfl
      have f2 := frozen_in hq2 2
      have m1 : w2.cell? ⟨nd.x, 1, none⟩ = some (.pointer none) := cell_in (hc2.keep hnode hxq) (i := 1) rfl
      have m2 : w2.cell? ⟨nd.x, 2, none⟩ = some (.pointer none) := cell_in (hc2.keep hnode hxq) (i := 2) rfl
      have HW2 := Lib.hid hw2
      have HW3 := Lib.hid hw3
      rw [show ptrO (lstO none []) = .pointer none from rfl] at n1
      rw [show ptrO (hdO [] none) = .pointer none from rfl] at n2
      clear h hnode hxs hw2 hc2 hq2 hw3 hc3 hq3 hc
      go_enter Tryd.func74, Tryd.ntmps74
      go_upto_region 3 with (fail)
      rw [← HW2.out]
      go_wp2_with fail
      rw [← HW3.out]
      go_end0
      exact ⟨⟨_, rfl⟩, HF.out⟩
    | cons v B' =>
      have hvn : w.heap[v.x]? = some (nodeO v.p (some nd.x) (hdO B' none)) := QRow.node (A := [nd]) (nd := v) (B := B') h
      have hxv : nd.x ≠ v.x := hxs.2.1 v (by simp)
      have hvq : v.x ≠ q := h.q_nx (by simp)
      obtain ⟨w2, hw2⟩ : ∃ w2, w2 = w.setCell ⟨q, 1, none⟩ (pv v.x) := ⟨_, rfl⟩
      have hc2 : Chg (fun k => k = q) w w2 := by rw [hw2]; exact Chg.setCell _ _ _ _ rfl
      have hq2 : w2.heap[q]? = some (quickO (some v.x) (lstO none ([] ++ nd :: v :: B')) n) := by rw [hw2]; exact setCell_head h.head 1 _
      have hv2 := hc2.keep hvn hvq
      obtain ⟨w3, hw3⟩ : ∃ w3, w3 = (w2.setCell ⟨v.x, 1, none⟩ (.pointer none)).drew := ⟨_, rfl⟩
      have hc3 : Chg (fun k => k = v.x) w2 w3 := by rw [hw3]; exact (Chg.setCell (fun k => k = v.x) w2 ⟨v.x, 1, none⟩ _ rfl).trans (Chg.drew _ _) fun _ h _ => h
      have hv3 : w3.heap[v.x]? = some (nodeO v.p none (hdO B' none)) := by rw [hw3]; exact setCell_head hv2 1 _
      have hc : Chg (fun k => k = q ∨ k = v.x) w w3 := (hc2.mono fun k hk _ => .inl hk).trans hc3 fun k hk _ => .inr hk
      have HF := Lib.hid (show QRow w3 q ([] ++ v :: B') n ∧ Chg (fun k => k = q ∨ ∃ u ∈ [] ++ v :: B', k = u.x) w w3 from by
        refine ⟨h.unlink hc (fun k hk => hk.imp id fun e => .inr ⟨v, B', rfl, e⟩) (hc3.keep hq2 (Ne.symm hvq)) (fun A' u e => by simp at e) (fun v2 B2 e => ?_), hc.mono fun k hk _ => hk.imp id fun e => ⟨v, by simp, e⟩⟩
        obtain ⟨rfl, rfl⟩ := List.cons.inj e
        exact hv3)
      have d2 := cell_in hv2 (i := 1) rfl
      have f2 := frozen_in hv2 1
      have m1 : w2.cell? ⟨nd.x, 1, none⟩ = some (.pointer none) := cell_in (hc2.keep hnode hxq) (i := 1) rfl
      have m2 : w2.cell? ⟨nd.x, 2, none⟩ = some (pv v.x) := cell_in (hc2.keep hnode hxq) (i := 2) rfl
      have HW2 := Lib.hid hw2
      have HW3 := Lib.hid hw3
      rw [show ptrO (lstO none []) = .pointer none from rfl] at n1
      rw [show ptrO (hdO (v :: B') none) = pv v.x from rfl] at n2
      clear h hnode hxs hw2 hc2 hq2 hw3 hc3 hc hv2 hv3 hvn
      go_enter Tryd.func74, Tryd.ntmps74
      go_upto_region 3 with (fail)
      rw [← HW2.out]
      go_wp2_with fail
      go_region
      rw [← HW3.out]
      go_wp2_with fail
      go_end0
      exact ⟨⟨_, rfl⟩, HF.out⟩
  · rw [List.concat_eq_append] at hA
    subst hA
    have hun : w.heap[u.x]? = some (nodeO u.p (lstO none A') (some nd.x)) := by
      have := QRow.node (A := A') (nd := u) (B := nd :: B) (by simpa using h)
      exact this
    have hux : u.x ≠ nd.x := hxs.1 u (by simp)
    have huq : u.x ≠ q := h.q_nx (by simp)
    rw [lstO_last] at n1 hnode
    cases B with
    | nil =>
      obtain ⟨w2, hw2⟩ : ∃ w2, w2 = (w.setCell ⟨u.x, 2, none⟩ (.pointer none)).drew := ⟨_, rfl⟩
      have hc2 : Chg (fun k => k = u.x) w w2 := by rw [hw2]; exact (Chg.setCell (fun k => k = u.x) w ⟨u.x, 2, none⟩ _ rfl).trans (Chg.drew _ _) fun _ h _ => h
      have hu2 : w2.heap[u.x]? = some (nodeO u.p (lstO none A') none) := by rw [hw2]; exact setCell_head hun 2 _
      have hq2 := hc2.keep h.head (Ne.symm huq)
      obtain ⟨w3, hw3⟩ : ∃ w3, w3 = w2.setCell ⟨q, 2, none⟩ (pv u.x) := ⟨_, rfl⟩
      have hc3 : Chg (fun k => k = q) w2 w3 := by rw [hw3]; exact Chg.setCell _ _ _ _ rfl
      have hq3 : w3.heap[q]? = some (quickO (hdO (A' ++ [u] ++ [nd]) none) (some u.x) n) := by rw [hw3]; exact setCell_head hq2 2 _
      have hc : Chg (fun k => k = q ∨ k = u.x) w w3 := (hc2.mono fun k hk _ => .inr hk).trans hc3 fun k hk _ => .inl hk
      have HF := Lib.hid (show QRow w3 q (A' ++ [u] ++ []) n ∧ Chg (fun k => k = q ∨ ∃ v ∈ A' ++ [u] ++ [], k = v.x) w w3 from by
        refine ⟨h.unlink hc (fun k hk => hk.imp id fun e => .inl ⟨A', u, rfl, e⟩) ?_ (fun A2 u2 e => ?_) (fun v2 B2 e => by cases e), hc.mono fun k hk _ => hk.imp id fun e => ⟨u, by simp, e⟩⟩
        · rw [hq3]
          congr 2
          · rw [List.append_nil, hdO_append, hdO_append, hdO_append]; rfl
          · rw [List.append_nil, lstO_last]
        · obtain ⟨e1, e2⟩ := List.append_inj' e rfl
          obtain ⟨rfl, _⟩ := List.cons.inj e2
          subst e1
          exact hc3.keep hu2 huq)
      have d2 := cell_in hq2 (i := 2) rfl
      have f2 := frozen_in hq2 2
      have u2 := cell_in hun (i := 2) rfl
      have fu := frozen_in hun 2
      have m1 : w2.cell? ⟨nd.x, 1, none⟩ = some (pv u.x) := cell_in (hc2.keep hnode (Ne.symm hux)) (i := 1) rfl
      have m2 : w2.cell? ⟨nd.x, 2, none⟩ = some (.pointer none) := cell_in (hc2.keep hnode (Ne.symm hux)) (i := 2) rfl
      have HW2 := Lib.hid hw2
      have HW3 := Lib.hid hw3
      rw [show ptrO (some u.x) = pv u.x from rfl] at n1
      rw [show ptrO (hdO [] none) = .pointer none from rfl] at n2
      clear h hnode hxs hw2 hc2 hq2 hw3 hc3 hc hu2 hun hq3
      go_enter Tryd.func74, Tryd.ntmps74
      go_wp2_with fail
      go_region
      rw [← HW2.out]
      go_wp2_with fail
      rw [← HW3.out]
      go_end0
      exact ⟨⟨_, rfl⟩, HF.out⟩
    | cons v B' =>
      have hvn : w.heap[v.x]? = some (nodeO v.p (some nd.x) (hdO B' none)) := by
        have := QRow.node (A := A' ++ [u] ++ [nd]) (nd := v) (B := B') (by simpa using h)
        rw [lstO_last] at this; exact this
      have hxv : nd.x ≠ v.x := hxs.2.1 v (by simp)
      have hvq : v.x ≠ q := h.q_nx (by simp)
      have huv : u.x ≠ v.x := hxs.2.2 u (by simp) v (by simp)
      obtain ⟨w2, hw2⟩ : ∃ w2, w2 = (w.setCell ⟨u.x, 2, none⟩ (pv v.x)).drew := ⟨_, rfl⟩
      have hc2 : Chg (fun k => k = u.x) w w2 := by rw [hw2]; exact (Chg.setCell (fun k => k = u.x) w ⟨u.x, 2, none⟩ _ rfl).trans (Chg.drew _ _) fun _ h _ => h
      have hu2 : w2.heap[u.x]? = some (nodeO u.p (lstO none A') (some v.x)) := by rw [hw2]; exact setCell_head hun 2 _
      have hv2 := hc2.keep hvn (Ne.symm huv)
      obtain ⟨w3, hw3⟩ : ∃ w3, w3 = (w2.setCell ⟨v.x, 1, none⟩ (pv u.x)).drew := ⟨_, rfl⟩
      have hc3 : Chg (fun k => k = v.x) w2 w3 := by rw [hw3]; exact (Chg.setCell (fun k => k = v.x) w2 ⟨v.x, 1, none⟩ _ rfl).trans (Chg.drew _ _) fun _ h _ => h
      have hv3 : w3.heap[v.x]? = some (nodeO v.p (some u.x) (hdO B' none)) := by rw [hw3]; exact setCell_head hv2 1 _
      have hc : Chg (fun k => k = u.x ∨ k = v.x) w w3 := (hc2.mono fun k hk _ => .inl hk).trans hc3 fun k hk _ => .inr hk
      have HF := Lib.hid (show QRow w3 q (A' ++ [u] ++ v :: B') n ∧ Chg (fun k => k = q ∨ ∃ x ∈ A' ++ [u] ++ v :: B', k = x.x) w w3 from by
        refine ⟨h.unlink hc (fun k hk => ?_) ?_ (fun A2 u2 e => ?_) (fun v2 B2 e => ?_), hc.mono fun k hk _ => .inr ?_⟩
        · rcases hk with rfl | rfl
          · exact .inr (.inl ⟨A', u, rfl, rfl⟩)
          · exact .inr (.inr ⟨v, B', rfl, rfl⟩)
        · rw [hc.keep h.head (fun e => e.elim (fun e => huq e.symm) fun e => hvq e.symm)]
          congr 2
          · rw [hdO_append, hdO_append, hdO_append, hdO_append]; rfl
          · rw [lstO_append (A' ++ [u]), lstO_append (A' ++ [u])]; rfl
        · obtain ⟨e1, e2⟩ := List.append_inj' e rfl
          obtain ⟨rfl, _⟩ := List.cons.inj e2
          subst e1
          exact hc3.keep hu2 huv
        · obtain ⟨rfl, rfl⟩ := List.cons.inj e
          rw [lstO_last]
          exact hv3
        · rcases hk with rfl | rfl
          · exact ⟨u, by simp, rfl⟩
          · exact ⟨v, by simp, rfl⟩)
      have d2 := cell_in hv2 (i := 1) rfl
      have f2 := frozen_in hv2 1
      have u2 := cell_in hun (i := 2) rfl
      have fu := frozen_in hun 2
      have m1 : w2.cell? ⟨nd.x, 1, none⟩ = some (pv u.x) := cell_in (hc2.keep hnode (Ne.symm hux)) (i := 1) rfl
      have m2 : w2.cell? ⟨nd.x, 2, none⟩ = some (pv v.x) := cell_in (hc2.keep hnode (Ne.symm hux)) (i := 2) rfl
      have HW2 := Lib.hid hw2
      have HW3 := Lib.hid hw3
      rw [show ptrO (some u.x) = pv u.x from rfl] at n1
      rw [show ptrO (hdO (v :: B') none) = pv v.x from rfl] at n2
      clear h hnode hxs hw2 hc2 hw3 hc3 hc hu2 hun hv2 hv3 hvn
      go_enter Tryd.func74, Tryd.ntmps74
      go_wp2_with fail
      go_region
      rw [← HW2.out]
      go_wp2_with fail
      go_region
      rw [← HW3.out]
      go_wp2_with fail
      go_end0
      exact ⟨⟨_, rfl⟩, HF.out⟩
end Go.Proofs.YtfbhddllimfdlaaDoor

/- Regions that draw their order inside a round of a range over a function: Reg's walk serves there too. -/
namespace Go.Proofs.YtfbhddllimfdlaaDoor
set_option linter.unusedVariables false
set_option linter.unusedSimpArgs false
/-- No 'defer'. -/
def noDefer (o : Oper) : Bool := match o.op with
  | .defer _ => false
  | .call _ | .go _ | .send .. | .recv .. | .select .. => true
  | _ => true
theorem noDefer_spec {o : Oper} (h : noDefer o = true) : ∀ c, o.op ≠ .defer c := by
  intro c hc
  unfold noDefer at h
  rw [hc] at h
  cases h
theorem rowsIn_wide' {n : Nat} {P : Program} {row : String} {args : Array Value} {w : World} {R : Value → World → Prop} {l : Nat} (h : Rows P row args w R) : RowsIn (Fence.wide.inRound l) n P row args w R := by
  intro c cs _
  obtain ⟨v, w', r, s⟩ := h c cs
  exact ⟨v, w', r, stepsIn_wide.2 s⟩
theorem callsIn_round {n : Nat} {P : Program} {f : FuncId} {args : Array Value} {w : World} {R : Ending → World → Prop} {l : Nat} (h : Calls P f args w R) : CallsIn (Fence.wide.inRound l) n P f args w R := callsIn_wide.2 h
section
variable {P : Program} {ops : Array Oper} {md : Region.Mode} {C : World → Prop} {Q : Act → World → Prop} {p : Plan}
theorem wpAnyIn_of_C {l n : Nat} {Q' : Exit → Act → World → Prop} (hnd : ∀ (i : Nat) (o : Oper), ops[i]? = some o → noDefer o = true) (hQ : ∀ a w, Q a w → Q' .normal a w) (hp : p.before md ops) : ∀ (fuel : Nat) (listed : Array Bool) (a : Act) (w : World), Closed md ops listed → listed.size = ops.size →
    wpAnyC P md ops p C Q fuel listed a w → wpAnyIn (Fence.wide.inRound l) n P md ops Q' fuel listed a w
  | 0, _, _, _, _, _, h => ⟨h.2.1, hQ _ _ h.2.2⟩
  | fuel + 1, listed, a, w, hcl, hsz, h => ⟨fun h0 => hQ _ _ (h.2.1 h0), fun i hi => by
      have h1 := h.2.2 i hi
      obtain ⟨hiun, o, ho, _⟩ := mem_ready.1 hi
      have next := fun a' w' => wpAnyIn_of_C (l := l) (n := n) hnd hQ hp fuel (listed.setIfInBounds i true) a' w' (hcl.set hi) (by simp [hsz])
      have hsem := Oper.semAt_eq (Fence.wide.inRound l).round a.eval o (noDefer_spec (hnd i o ho))
      unfold stepC at h1
      unfold wpOpIn
      simp only [ho] at h1 ⊢
      by_cases hl : p.L.contains i = true
      · simp only [hl, if_true] at h1
        unfold loudOp at h1
        split
        · rename_i hw
          simp only [hw, if_true] at h1
          unfold Oper.wp at h1
          unfold Oper.wpIn
          refine ⟨fun _ _ => trivial, ?_⟩
          rw [hsem]
          generalize (execOp a.eval o).run P w = r at *
          cases r with
          | ok n w' =>
            cases n <;> simp only [Oper.upon] at h1 <;> simp only [Oper.uponIn]
            case value u => exact next _ _ h1
            case skip => exact next _ _ h1
            case defer d => exact next _ _ h1
            case enter f args =>
              refine ⟨fun h => (by simp [Fence.wide] at h), CallsIn.mono (callsIn_round h1) fun e w'' he => ?_⟩
              cases e with
              | returned u => exact next _ _ he
              | panicked c => exact he.elim
              | outgrown => obtain ⟨_, _, he⟩ := he; exact he.elim
            case row row args => exact ⟨fun h => (by simp [Fence.wide] at h), RowsIn.mono (rowsIn_wide' h1) fun u w'' he => next _ _ he⟩
          | halt x w' => cases x <;> simp only [Oper.upon, QF] at h1
        · rename_i hw
          simp only [hw] at h1
          exact ⟨fun _ _ => trivial, next _ _ h1⟩
      · simp only [hl] at h1
        obtain ⟨v, hy, hK⟩ := h1
        have hiL : i ∉ p.L := by simpa using hl
        have hilt : i < ops.size := (Array.getElem?_eq_some_iff.1 ho).1
        have hc := cls_holds hp hcl hsz hiL hilt (unl hiun) h.1
        rcases hy with ⟨hw, hv⟩ | ⟨hw, rfl⟩
        · simp only [hw, if_true]
          unfold Oper.wpIn
          refine ⟨fun _ _ => trivial, ?_⟩
          rw [hsem]
          rcases hv w hc with hv1 | ⟨hv1, hu⟩
          · rw [hv1]; exact next _ _ hK
          · subst hu; rw [hv1]; exact next _ _ hK
        · simp only [hw, Bool.false_eq_true, if_false]; exact ⟨fun _ _ => trivial, next _ _ hK⟩⟩
/-- **A REGION THAT DRAWS ITS ORDER, INSIDE A ROUND, WALKED IN THE TEXT's ORDER.** -/
theorem wpIn_region_text {l0 n id : Nat} {Q' : Exit → Act → World → Prop} {a : Act} {w : World} {l : List Oper} (p : Plan) (C : World → Prop) (hm : P.follows .mixedOrders = true) (hB : p.okB .any l.toArray = true) (hnd : l.all noDefer = true)
    (hC : C w.drew) (h : wpC P l.toArray p C (fun a' w' => Q' .normal a' w') 0 l a w.drew) : (Code.region id l.toArray true).wpIn (Fence.wide.inRound l0) n P Q' a w := by
  simp only [Plan.okB, Region.lexB, Bool.and_eq_true, Bool.or_eq_true, decide_eq_true_eq, List.all_eq_true, List.mem_range] at hB
  obtain ⟨⟨⟨hs, hlex⟩, hm'⟩, hall⟩ := hB
  have hmL : p.m < l.toArray.size → p.m ∈ p.L := fun h1 => by
    rcases hm' with h2 | h2
    · omega
    · simpa using h2
  have hbef : p.before .any l.toArray := fun i hiL hiD hilt => by
    have h1 := hall i hilt
    simp only [show p.L.contains i = false by simpa using hiL, show p.D.contains i = false by simpa using hiD, Bool.false_eq_true, if_false, Bool.false_or, Bool.or_eq_true, decide_eq_true_eq, Bool.and_eq_true, bne_iff_ne] at h1
    rcases h1 with h1 | h1
    · exact .inl h1
    · exact .inr ⟨h1.1, depB_spec _ _ h1.2⟩
  have hord : ∀ k j, k ∈ p.L → j ∈ p.L → k < j → j < l.toArray.size → Dep .any l.toArray k j := fun k j hk hj hkj hjlt => by
    have h1 := hall j hjlt
    simp only [show p.L.contains j = true by simpa using hj, if_true, List.all_eq_true, Bool.or_eq_true, decide_eq_true_eq] at h1
    rcases h1 k hk with (h2 | h2) | h2
    · omega
    · omega
    · exact depB_spec _ _ h2
  have hcl : Closed Region.Mode.any l.toArray (Array.replicate l.toArray.size false) := fun j o _ hl' => by
    rcases Nat.lt_or_ge j l.toArray.size with h1 | h1 <;> simp_all
  refine wpIn_region_any hm (wpAnyIn_of_C (Q := fun a' w' => Q' .normal a' w') (p := p) (C := C) (fun i o ho => ?_) (fun _ _ h => h) hbef _ _ _ _ hcl (by simp) ?_)
  · have := List.all_eq_true.1 hnd o
    exact this (by
      have h1 := Array.mem_of_getElem? ho
      simpa using h1)
  have := wpAnyC_lex (C := C) hs hbef hmL hord l 0 (Array.replicate l.toArray.size false) a { w with drawn := w.drawn + 1 } (by simp) (by simp) hcl (by simp)
    (fun j hj => by simp_all) (by simpa using hlex) (fun _ => hC) h
  simpa using this
end
end Go.Proofs.YtfbhddllimfdlaaDoor

/- Appending texts of a slice to texts that a call has made. -/
namespace Go.Proofs.YtfbhddllimfdlaaDoor
set_option linter.unusedVariables false
set_option linter.unusedSimpArgs false
open Go.RowKit
abbrev strV (s : ByteArray) : Value := .string s
theorem run_append_none {P : Program} {w : World} {B : Nat} {e : TypeId} {v : Value} {n : Nat} {xs : List Value} {t ty : TypeId} {i : TypeInfo} (ht : P.underlying t = some (.slice e)) (hi : P.info? e = some i) (hsize : i.size = 1) (h : SliceIs w B e v n xs) (a : Option Addr) (c : Nat) :
    (Builtin.append_ #[t, t] ty #[v, .slice a 0 c]).run P w = .ok v w := by
  have hf : (Builtin.firstCells 1 0 (.slice a 0 c)).run P w = .ok #[] w := by
    cases a with
    | none => rfl
    | some A =>
      have hL := run_loadCells_list (P := P) w A [] (by simp)
      rw [List.length_nil] at hL
      simp [Builtin.firstCells, hL]
  rcases h.2 with ⟨rfl, rfl⟩ | ⟨g, cap, cur, rfl, h2, h3, h4, h5, h6, h7⟩
  · simp [Builtin.append_, run_underlying ht, sizeOf, typeInfo, hi, hsize, Builtin.lenOf, hf]
  · simp [Builtin.append_, run_underlying ht, sizeOf, typeInfo, hi, hsize, Builtin.lenOf, hf, h5, storeCells]
theorem info_str : (Tryd.prog.info? 9).map (fun i => (i.zero, i.size, i.bytes)) = some (some (.string ByteArray.empty), 1, 16) := by kernel_rfl
/-- 'append(l, m...)', l of the call's own making. -/
theorem append_texts {w : World} {B n m c : Nat} {v : Value} {xs ys : List ByteArray} {a : Option Addr} (h : SliceIs w B 9 v n (xs.map strV)) (hB : B ≤ w.heap.size) (hm : ys.length = m)
    (ha : m = 0 ∨ ∃ b o, a = some ⟨b, o, none⟩ ∧ ∀ i, i < m → w.cell? ⟨b, o + i, none⟩ = some (.string (ys.getD i ByteArray.empty))) (hs : n + m ≤ 1000000000) :
    ∃ v' w', (Builtin.append_ #[35, 35] 35 #[v, .slice a m c]).run Tryd.prog w = .ok v' w' ∧ SliceIs w' B 9 v' (n + m) ((xs ++ ys).map strV) ∧ Below B w w' := by
  obtain ⟨i0, g1, g2, g3, g4⟩ := info_parts info_str
  rcases Nat.eq_zero_or_pos m with h0 | h0
  · subst h0
    have hy : ys = [] := List.eq_nil_of_length_eq_zero hm
    subst hy
    exact ⟨v, w, run_append_none (P := Tryd.prog) Tryd.underlying35 g1 g3 h a c, by simpa using h, Below.refl _ _⟩
  · obtain ⟨b, o, rfl, hc⟩ := ha.resolve_left (by omega)
    rw [List.map_append]
    refine run_append_local (P := Tryd.prog) Tryd.underlying35 g1 g2 g3 g4 rfl h hB ⟨b, o, none⟩ m c (ys.map strV) h0 (by simp [hm]) (fun j u hu => ?_) (by simp; intro x _; rfl) (by unfold maxLen; omega) (by omega)
    rw [List.getElem?_map] at hu
    cases hb : ys[j]? with
    | none => rw [hb] at hu; cases hu
    | some s =>
      rw [hb] at hu
      obtain ⟨hj, hcj⟩ := List.getElem?_eq_some_iff.1 hb
      rw [Addr.add_lit, hc j (by omega)]
      simp only [List.getD, hb, Option.getD_some]
      simpa using hu
theorem texts_of_slice {w : World} {B n : Nat} {v : Value} {xs : List ByteArray} (h : SliceIs w B 9 v n (xs.map strV)) : ∃ a c, v = .slice a n c ∧ ArgRow w a n c (fun i => .string (xs.getD i ByteArray.empty)) := by
  obtain ⟨a, c, rfl, h1, h2⟩ := h.arg
  refine ⟨a, c, rfl, h1, h2.imp id ?_⟩
  rintro ⟨b, o, e, hc⟩
  refine ⟨b, o, e, fun i hi => ?_⟩
  have hl : xs.length = n := by simpa using h.1
  rw [hc i hi]
  simp [List.getD, show i < xs.length by omega]
end Go.Proofs.YtfbhddllimfdlaaDoor

/- The law PackCuts: the walk. -/
-- SOFT
namespace Go.Proofs.YtfbhddllimfdlaaDoor
set_option linter.unusedVariables false
set_option linter.unusedSimpArgs false
open Go.RowKit
theorem total_cut (L : List ByteArray) (i j : Nat) (h : i ≤ j) : totalT (L.take i ++ L.drop j) ≤ totalT L := by
  unfold totalT
  have h1 : ((L.take i).map ByteArray.size).sum + ((L.drop i).map ByteArray.size).sum = (L.map ByteArray.size).sum := by
    rw [← List.sum_append, ← List.map_append, List.take_append_drop]
  have h2 : ((L.drop j).map ByteArray.size).sum ≤ ((L.drop i).map ByteArray.size).sum := by
    have : L.drop j = (L.drop i).drop (j - i) := by rw [List.drop_drop]; congr 1; omega
    rw [this]
    have := congrArg (fun l => (l.map ByteArray.size).sum) (List.take_append_drop (j - i) (L.drop i))
    simp only [List.map_append, List.sum_append] at this
    omega
  simp only [List.map_append, List.sum_append, List.length_append, List.length_take, List.length_drop]
  omega
theorem fits_cut {L : List ByteArray} (h : fitsT L = true) (i j : Nat) : fitsT (L.take i ++ L.drop j) = true := by
  have h' := of_decide_eq_true h
  refine decide_eq_true fun s hs => ?_
  rcases List.mem_append.1 hs with hs | hs
  · exact h' s (List.mem_of_mem_take hs)
  · exact h' s (List.mem_of_mem_drop hs)
theorem delP_ok {L : List ByteArray} {i m : Nat} (h : i + m ≤ L.length) : delP L i m = (0, L.take i ++ L.drop (i + m)) := by
  unfold delP
  rw [if_neg (by omega), Int.toNat_natCast, Int.toNat_natCast]
theorem delP_far {L : List ByteArray} {n : Int} (h : (L.length : Int) < n) : delP L n 0 = (1, L) := by
  unfold delP; rw [if_pos (by omega)]
theorem delP_many {L : List ByteArray} {n : Int} (h : (L.length : Int) < n) : delP L 0 n = (1, L) := by
  unfold delP; rw [if_pos (by omega)]
def afterT (a : Option Addr) (ca q : Nat) : Option Addr := match a with
  | some ⟨b, o, none⟩ => if ca = q then some ⟨b, o, none⟩ else some ⟨b, o + q, none⟩
  | x => x
end Go.Proofs.YtfbhddllimfdlaaDoor

/- quick: pour. -/
namespace Go.Proofs.YtfbhddllimfdlaaDoor
set_option linter.unusedVariables false
set_option linter.unusedSimpArgs false
open Go.RowKit Go.Shelf
attribute [local go_sem] Oper.semAt_some
theorem PackF.head_only {w : World} {p : Nat} {F : Nat → Prop} {L : List ByteArray} (h : PackF w p F L) {k : Nat} (hk : F k) {cs : Array Value} {fz : Nat × Nat} (e : w.heap[k]? = some (.cells cs 70 fz)) : k = p := by
  obtain ⟨g, cap, cur, h, hF⟩ := h
  rcases (hF k).1 hk with rfl | rfl
  · rfl
  · obtain ⟨fz', _, hh⟩ := h.row
    rw [hh] at e
    injection e with e
    injection e with _ e _
    exact absurd e (by decide)
theorem PackF.own {W W' : World} {row : Option Nat} {p : Nat} {F : Nat → Prop} {L : List ByteArray} (h : PackF W p F L) (hg : W.grownBy W' row) (hr : ∀ r, row = some r → ∃ o : Obj, W.heap[r]? = some o ∧ o.isCells = false) : PackF W' p F L := by
  obtain ⟨g, cap, cur, h, hF⟩ := h
  obtain ⟨fz, h1, h2⟩ := h.row
  exact ⟨g, cap, cur, { h with head := grown_keepP hg hr h.head, row := ⟨fz, h1, grown_keepP hg hr h2⟩ }, hF⟩
theorem okl_prefix {X Y : List ByteArray} (h : OKL (X ++ Y)) : OKL X := by
  refine ⟨?_, ?_, fun s hs => h.each s (by simp [hs])⟩
  · have := h.size
    unfold sizeP at *
    rw [bodyL_append, List.length_append] at this
    omega
  · have := h.many
    rw [List.length_append] at this
    omega
theorem insP_end {X Y : List ByteArray} {s : ByteArray} (h : OKL (X ++ [s] ++ Y)) : insP X (X.length : Int) s = (0, X ++ [s]) := by
  have h1 := okl_prefix h
  have h2 := h1.each s (by simp)
  have h3 := h1.size
  have h4 := h1.many
  rw [List.length_append, List.length_singleton] at h4
  unfold sizeP at h3
  rw [bodyL_append, bodyL_cons, bodyL_nil, List.append_nil, List.length_append] at h3
  unfold insP sizeP
  rw [if_neg (by omega), if_neg (by omega), if_neg (by omega)]
  simp
/-- A round of pour, on the other pack's texts. -/
def pourT (at_ : Nat) (T : List ByteArray) (x : Nat × ByteArray) : List ByteArray := if at_ ≤ x.1 then (insP T (T.length : Int) x.2).2 else T
theorem pour_fold {L1 L2 : List ByteArray} {at_ : Nat} (ok : OKL (L2 ++ L1.drop at_)) : ∀ k, k ≤ L1.length → ((toldP L1).take k).foldl (pourT at_) L2 = L2 ++ (L1.take k).drop at_
  | 0, _ => by simp
  | k + 1, hk => by
    have ih := pour_fold ok k (by omega)
    rw [toldP_take (by omega), List.foldl_append, ih]
    simp only [List.foldl_cons, List.foldl_nil, pourT]
    by_cases h : at_ ≤ k
    · have e1 : (L1.take (k + 1)).drop at_ = (L1.take k).drop at_ ++ [L1[k]] := by
        rw [List.take_succ_eq_append_getElem (by omega), List.drop_append_of_le_length (by rw [List.length_take]; omega)]
      have e2 : L1.drop at_ = (L1.take k).drop at_ ++ [L1[k]] ++ L1.drop (k + 1) := by
        conv => lhs; rw [← List.take_append_drop (k + 1) L1]
        rw [List.drop_append_of_le_length (by rw [List.length_take]; omega), e1]
      rw [if_pos h, insP_end (Y := L1.drop (k + 1)) (by rw [e2] at ok; simpa [List.append_assoc] using ok), e1, List.append_assoc]
    · rw [if_neg h, List.drop_eq_nil_of_le (by rw [List.length_take]; omega), List.drop_eq_nil_of_le (by rw [List.length_take]; omega)]
/-- The range over All, where the loop knows of each element that it is one of those that are told. -/
theorem packStopsM {w0 w : World} {N p bp g cap : Nat} {cur : Array Value} {L : List ByteArray} (hl : Laid w0) (hw0 : w0.heap.size = N) (hb0 : Below N w0 w) (hN : N ≤ w.heap.size) (hr : PackRow w p g cap cur L) (hbp : w.cell? ⟨bp, 0, none⟩ = some (.pointer (some ⟨p, 0, none⟩))) (m : Nat) :
    SeqStopsK (α := { x // x ∈ toldP L }) Fence.wide m Tryd.prog 99 #[.pointer (some ⟨bp, 0, none⟩)] (fun x => encP x.1) (KeepP N w.heap.size g) (fun xs => xs.map (·.1) = toldP L) (fun pre => pre.map (·.1) <+: toldP L) (toldP L).length w := by
  intro l J Jx W hW hJ _ hY h0
  refine callsIn_wide.2 ((packIter1 hl hw0 (hb0.trans (hW.mono hN)) (hr.chg (Chg.of_below (fun _ => False) hW) id id) ((hW.cell (p := ⟨bp, 0, none⟩) (World.block_lt_of_cell? w _ hbp)).trans hbp) hW.size hN (fun xs W => ∃ ys, ys.map (·.1) = xs ∧ J ys W) (fun xs W => ∃ ys, ys.map (·.1) = xs ∧ Jx ys W) (fun s W W' row => by
    rintro ⟨ys, e, hj⟩ hg hr
    exact ⟨ys, e, hJ ys W W' row hj hg hr⟩) (fun pre x W1 => by
    rintro ⟨ys, rfl, hj⟩ hp
    have hx : x ∈ toldP L := hp.subset (by simp)
    have hl := pre_ltP hp
    rw [List.length_map] at hl
    refine (hY ys ⟨x, hx⟩ W1 hj hl).mono ?_
    rintro e W' (⟨rfl, hj', hk⟩ | ⟨rfl, hj'⟩)
    · exact .inl ⟨rfl, ⟨_, by simp, hj'⟩, hk⟩
    · exact .inr ⟨rfl, _, by simp, hj'⟩) ⟨[], rfl, h0⟩).mono ?_)
  rintro e W' ⟨hv, ⟨xs, rfl, ys, hys, hj⟩ | ⟨pre, hp, ys, rfl, hj⟩⟩
  · exact ⟨hv, .inl ⟨ys, hys, hj⟩⟩
  · exact ⟨hv, .inr ⟨ys, hp, hj⟩⟩
/-- Between two rounds of pour. -/
structure PourI (w0 w : World) (n p1 p2 at_ : Nat) (F1 F2 : Nat → Prop) (L1 L2 : List ByteArray) (pre : List { x // x ∈ toldP L1 }) (W : World) : Prop where
  below : Below w0.heap.size w0 W
  size : n + 3 ≤ W.heap.size
  b0 : W.heap[n]? = some (.cells #[.int .i64 at_] 3 (0, 0))
  b1 : W.heap[n + 1]? = some (.cells #[.pointer (some ⟨p2, 0, none⟩)] 25 (0, 0))
  from_ : PackF W p1 F1 L1
  to_ : ∃ F, PackF W p2 F ((pre.map (·.1)).foldl (pourT at_) L2) ∧ Fresh w F2 F ∧ ∀ k, F k → n ≤ k → n + 3 ≤ k
  chg : Chg F2 w W
theorem PourI.own {w0 w : World} {n p1 p2 at_ : Nat} {F1 F2 : Nat → Prop} {L1 L2 : List ByteArray} {B : Nat} (h0 : w0.heap.size ≤ w.heap.size) (hB : w.heap.size ≤ B) : OwnFrom B (PourI w0 w n p1 p2 at_ F1 F2 L1 L2) := by
  rintro pre W W' row h hg hr
  have hr2 := fun r e => (hr r e).2
  obtain ⟨F, g1, g2, g3⟩ := h.to_
  refine ⟨grown_belowP h.below hg (fun r e => (hr r e).1) (by omega) (by have := h.chg.size; omega), Nat.le_trans h.size hg.size, grown_keepP hg hr2 h.b0, grown_keepP hg hr2 h.b1, h.from_.own hg hr2, ⟨F, g1.own hg hr2, g2, g3⟩, ?_⟩
  refine h.chg.trans (S' := fun k => row = some k) ⟨hg.os, hg.tape, hg.output, hg.size, fun k hk hn => hg.block k hk fun e => hn e.symm⟩ fun k hk hlt => ?_
  have := (hr k hk).1
  omega
set_option maxHeartbeats 6400000 in
set_option maxRecDepth 100000 in
theorem pour_any {w0 w : World} (hl : Laid w0) (hb0 : Below w0.heap.size w0 w) (hN : w0.heap.size ≤ w.heap.size) {p1 p2 : Nat} {F1 F2 : Nat → Prop} {L1 L2 : List ByteArray} (h1 : PackF w p1 F1 L1) (h2 : PackF w p2 F2 L2)
    (hd : ∀ k, F1 k → ¬ F2 k) (k1 : ∀ k, F1 k → w0.heap.size ≤ k) (k2 : ∀ k, F2 k → w0.heap.size ≤ k) (at_ : Nat) (hat : at_ ≤ L1.length) (ok : OKL (L2 ++ L1.drop at_)) :
    Calls Tryd.prog 73 #[.pointer (some ⟨p1, 0, none⟩), .int .i64 at_, .pointer (some ⟨p2, 0, none⟩)] w fun e w' => (∃ v, e = .returned v) ∧
      (∃ F1' F2', PackF w' p1 F1' (L1.take at_) ∧ PackF w' p2 F2' (L2 ++ L1.drop at_) ∧ Fresh w F1 F1' ∧ Fresh w F2 F2' ∧ ∀ k, F1' k → ¬ F2' k) ∧ Chg (fun k => F1 k ∨ F2 k) w w' := by
  have HA := Lib.hid (fun w => packAll w p1)
  have hmany := h1.ok.many
  obtain ⟨w4, hw4⟩ : ∃ w4, w4 = (w.alloc (.cells #[.int .i64 at_] 3)).alloc (.cells #[.pointer (some ⟨p2, 0, none⟩)] 25) := ⟨_, rfl⟩
  have hs4 : w4.heap.size = w.heap.size + 2 := by rw [hw4]; simp
  have hb4 : Below w.heap.size w w4 := by rw [hw4]; exact ((Below.refl w.heap.size w).alloc (Nat.le_refl _) _).alloc (by simp) _
  obtain ⟨w5, hw5⟩ : ∃ w5, w5 = w4.alloc (.cells #[.pointer (some ⟨p1, 0, none⟩)] 25) := ⟨_, rfl⟩
  have hs5 : w5.heap.size = w.heap.size + 3 := by rw [hw5]; simp [hs4]
  have hb5 : Below w.heap.size w w5 := by rw [hw5]; exact hb4.alloc (by omega) _
  have hbp : w5.cell? ⟨w4.heap.size, 0, none⟩ = some (.pointer (some ⟨p1, 0, none⟩)) := by rw [hw5]; exact cell_in (heap_new _ _) rfl
  have hb05 : Below w0.heap.size w0 w5 := hb0.trans (hb5.mono hN)
  have hI0 : PourI w0 w w.heap.size p1 p2 at_ F1 F2 L1 L2 [] w5 := by
    have e1 := heap_new w (Obj.cells #[Value.int IntKind.i64 at_] 3)
    have e2 := heap_new (w.alloc (Obj.cells #[Value.int IntKind.i64 at_] 3)) (Obj.cells #[.pointer (some ⟨p2, 0, none⟩)] 25)
    simp only [World.size_alloc] at e2
    refine ⟨hb05, by omega, ?_, ?_, h1.below hb5, ⟨F2, by simpa using h2.below hb5, fun k hk => .inl hk, fun k hk hn => by have := h2.lt hk; omega⟩, Chg.of_below _ hb5⟩ <;> rw [hw5, hw4]
    · exact heap_old (heap_old e1 _) _
    · exact heap_old e2 _
  have h15 := h1.below hb5
  obtain ⟨g, cap, cur, hrw, hF1⟩ := h15
  have HSeq := Lib.hid (packStopsM hl rfl hb05 (by omega) hrw hbp 2)
  have hF1g : F1 g := (hF1 g).2 (.inr rfl)
  have HI0 := Lib.hid hI0
  have HW4 := Lib.hid hw4
  have HW5 := Lib.hid (And.intro hw5 hs5)
  have H := Lib.hid (And.intro hl (And.intro hN (And.intro hd (And.intro k1 (And.intro k2 (And.intro hat (And.intro ok (And.intro hF1g (And.intro (show ∀ k, F2 k → k < w.heap.size from fun k hk => h2.lt hk) (And.intro (show p2 < w.heap.size from h2.lt h2.head) (show ∀ k, F1 k → k < w.heap.size from fun k hk => h1.lt hk)))))))))))
  clear hw4 hw5 hs4 hb4 hs5 hb5 hbp hI0 hrw hl hb0 hb05 h1 h2 hd k1 k2 ok hF1 hF1g hN
  obtain ⟨tm, htm⟩ : ∃ tm : Array Value, tm = #[.pointer (some ⟨p1, 0, none⟩), .int .i64 at_, .pointer (some ⟨p2, 0, none⟩), undef, .pointer (some ⟨w.heap.size, 0, none⟩), .pointer (some ⟨w.heap.size + 1, 0, none⟩), undef, undef, .pointer (some ⟨p1, 0, none⟩), .func (.func 99) #[] #[.pointer (some ⟨w4.heap.size, 0, none⟩)], undef, undef, undef, undef, undef, undef, undef, undef, undef, undef, undef, undef, undef, undef, undef, undef, undef] := ⟨_, rfl⟩
  have HTm := Lib.hid htm
  clear htm
  refine callsIn_wide.1 (callsIn_of_wp_marks (n := 3) Tryd.func73 rfl trivial ?_ rfl)
  refine wpIn_wide.2 ?_
  simp only [Tryd.ntmps73, List.size_toArray, List.length_cons, List.length_nil, Nat.reduceAdd, Nat.reduceSub, Array.replicate_succ, Array.replicate_zero, List.push_toArray, List.append_toArray, List.nil_append, List.cons_append]
  go_wp2_with fail
  rw [← HW4.out]
  refine (HA.out w4).mono ?_
  rintro en w' ⟨rfl, hw'⟩
  obtain rfl : w' = w5 := hw'.trans HW5.out.1.symm
  clear hw'
  go_wp2_with fail
  refine (wpIn_wide (n := 3)).1 ?_
  refine wpIn_rangeFunc_ownH (F := Fence.wide) rfl (by omega) (gf := 99) (lb := #[.pointer (some ⟨w4.heap.size, 0, none⟩)]) rfl trivial (fun args w => rfl) HSeq.out KeepP.trans (fun W l o o' hle hl ho _ => KeepP.putObj W l o o' (by have := HW5.out.2; have := H.out.2.1; omega) hl ho) (Below.refl _ _) (fun _ => rfl)
    (PourI w0 w w.heap.size p1 p2 at_ F1 F2 L1 L2) (fun _ _ _ => False) (PourI.own H.out.2.1 (by have := HW5.out.2; omega)) (fun c => fun _ _ _ _ h _ _ => h) HI0.out (fun x a' _ => a' = { tmps := (((tm.setIfInBounds 10 (.int .i64 x.1.1)).setIfInBounds 11 (.string x.1.2)).setIfInBounds 6 (.int .i64 x.1.1)).setIfInBounds 7 (.string x.1.2), defers := [] }) (fun x a' => fun _ _ _ _ h _ _ => h) ?assign ?body ?done ?stop
  case assign =>
    intro l pre x W K hI hK
    have HI := Lib.hid hI
    clear hI
    unfold encP
    gi_wp2
    refine hK _ _ (KeepsFrom.refl _ _) (KeepP.of_below (Below.refl _ _) (by have := HI.out.chg.size; have := H.out.2.1; omega)) HI.out ?_
    rw [HTm.out]; rfl
  case body =>
    rintro l pre ⟨⟨xi, xs⟩, hx⟩ a' W _ _ hI rfl hlen
    have HI := Lib.hid hI
    obtain ⟨F, g1, g2, g3⟩ := hI.to_
    have x0 := cell_in hI.b0 (i := 0) rfl
    have hxs : xs.size ≤ 65536 := by
      obtain ⟨j, hj, he⟩ := List.getElem_of_mem hx
      have hj' : j < L1.length := by simpa using hj
      have : xs = L1[j] := by
        have e := congrArg Prod.snd he
        simp [toldP, List.getD, hj'] at e
        exact e.symm
      rw [this]
      exact hI.from_.ok.each _ (List.getElem_mem hj')
    rw [HTm.out]
    simp only [List.setIfInBounds_toArray, List.set_cons_succ, List.set_cons_zero]
    by_cases hm : at_ ≤ xi
    · have hmd : decide (at_ ≤ xi) = true := decide_eq_true hm
      obtain ⟨T, hT⟩ : ∃ T, (pre.map (·.1)).foldl (pourT at_) L2 = T := ⟨_, rfl⟩
      rw [hT] at g1
      have htm := g1.ok.many
      obtain ⟨X1, f, hX1, hf, hF⟩ := classOf (fun y => y.cell? ⟨w.heap.size + 1, 0, none⟩ = some (.pointer (some ⟨p2, 0, none⟩))) (w := W.drew) (cell_in hI.b1 (i := 0) rfl)
      have H0 := Lib.hid (hF W.drew (cell_in hI.b1 (i := 0) rfl))
      have HL := Lib.hid (packLen (w := W.drew) (g1.below (belowN (Below.refl _ _) 1)))
      have hb0W : Below w0.heap.size w0 W.drew := belowN hI.below 1
      have HIn := Lib.hid (packInsert (w := W.drew) (g1.below (belowN (Below.refl _ _) 1)) (H.out.1.below hb0W) (T.length : Int) (by omega) xs (by omega))
      have hpt : pourT at_ T (xi, xs) = (insP T (T.length : Int) xs).2 := by unfold pourT; rw [if_pos hm]
      have HFin := Lib.hid (show ∀ W', (∃ F', PackF W' p2 F' (insP T (T.length : Int) xs).2 ∧ Fresh W.drew F F') → Chg F W.drew W' → ownPostG w'.heap.size (KeepP w0.heap.size w'.heap.size g) (PourI w0 w w.heap.size p1 p2 at_ F1 F2 L1 L2) (fun _ _ _ => False) (pre ++ [⟨(xi, xs), hx⟩]) W .normal { tmps := #[], defers := [] } W' from fun W' hP hc0 => by
        have hI := HI.out
        have h' := H.out
        obtain ⟨F', q1, q2⟩ := hP
        have hc : Chg F W W' := (Chg.drew F W).trans hc0 fun _ h _ => h
        have hFn : ∀ k, F k → w0.heap.size ≤ k := fun k hk => by
          rcases g2 k hk with h1 | h1
          · exact h'.2.2.2.2.1 k h1
          · have := h'.2.1; omega
        have hsz : w.heap.size ≤ W.heap.size := hI.chg.size
        have hF1 : ∀ k, F1 k → ¬ F k := fun k h1 h2 => by
          rcases g2 k h2 with h3 | h3
          · exact h'.2.2.1 k h1 h3
          · have := h'.2.2.2.2.2.2.2.2.2.2 k h1; omega
        refine ⟨keepsFrom_ofP _ hc fun k hk o ho => ?_, ⟨belowChg (Below.refl _ _) hc (by have := h'.2.1; omega) fun k hk _ => hFn k hk, hc.size, fun cs fz e => hc.keep e (hF1 _ h'.2.2.2.2.2.2.2.1), fun k cs fz hk e => hc.keep e fun hFk => ?_⟩,
          belowChg hI.below hc (by have := h'.2.1; omega) fun k hk _ => hFn k hk, Nat.le_trans hI.size hc.size, hc.keep hI.b0 fun hFk => by have := g3 _ hFk; omega, hc.keep hI.b1 fun hFk => by have := g3 _ hFk; omega, hI.from_.chg hc hF1, ⟨F', ?_, fun k hk => ?_, fun k hk hn => ?_⟩, ?_⟩
        · obtain ⟨cs, E, fz, e, _⟩ := g1.kind hk
          rw [e] at ho; cases ho; rfl
        · have := g1.head_only hFk e
          have := h'.2.2.2.2.2.2.2.2.2.1
          have := HW5.out.2
          omega
        · rw [List.map_append, List.foldl_append, hT]
          simp only [List.map_cons, List.map_nil, List.foldl_cons, List.foldl_nil, hpt]
          exact q1
        · rcases q2 k hk with h1 | h1
          · exact g2 k h1
          · exact .inr (Nat.le_trans hsz h1)
        · rcases q2 k hk with h1 | h1
          · exact g3 k h1 hn
          · exact Nat.le_trans hI.size h1
        · exact hI.chg.trans hc fun k hk hlt => by
            rcases g2 k hk with h1 | h1
            · exact h1
            · omega)
      clear hI g1 g2 g3 hF hT hpt hb0W hm
      generalize T.length = nT at *
      gi_wp2
      refine wpIn_region_text ⟨[2, 4], [], 4⟩ (fun w' => ∃ x : X1, w' = f x) (by kernel_rfl) (by kernel_rfl) (by kernel_rfl) H0.out ?_
      refine wpC_seg false (H0.out) 2 0 _ _ (by rfl) (by rfl) ?_
      simp only [List.take_succ_cons, List.take_zero, List.drop_succ_cons, List.drop_zero, Bool.false_eq_true, if_false, Nat.zero_add, Nat.reduceAdd]
      repeat (go_big_quiet_step (fail))
      refine wpQuiet_nil ?_
      refine wpC_loud (by rfl) (by rfl) fun K hK => ?_
      go_wp2_with fail
      refine HL.out.mono ?_
      rintro e W2 ⟨rfl, rfl⟩
      refine hK _ _ (fun _ => H0.out) ?_
      clear hK
      refine wpC_seg false (H0.out) 1 3 _ _ (by rfl) (by rfl) ?_
      simp only [List.take_succ_cons, List.take_zero, List.drop_succ_cons, List.drop_zero, Bool.false_eq_true, if_false, Nat.zero_add, Nat.reduceAdd]
      repeat (go_big_quiet_step (fail))
      refine wpQuiet_nil ?_
      refine wpC_loud (by rfl) (by rfl) fun K hK => ?_
      go_wp2_with fail
      refine HIn.out.mono ?_
      rintro e W2 ⟨rfl, hP, hc⟩
      have HE := Lib.hid (HFin.out W2 hP hc)
      refine hK _ _ (fun h => absurd h (by decide)) ?_
      clear hK hP hc
      refine wpC_nil ?_
      gi_wp2
      exact HE.out
    · have hmd : decide (at_ ≤ xi) = false := decide_eq_false hm
      have hpt : ∀ T, pourT at_ T (xi, xs) = T := fun T => by unfold pourT; rw [if_neg hm]
      have HFin := Lib.hid (show ownPostG w'.heap.size (KeepP w0.heap.size w'.heap.size g) (PourI w0 w w.heap.size p1 p2 at_ F1 F2 L1 L2) (fun _ _ _ => False) (pre ++ [⟨(xi, xs), hx⟩]) W .normal { tmps := #[], defers := [] } W from
        ⟨KeepsFrom.refl _ _, KeepP.of_below (Below.refl _ _) (by have := hI.chg.size; have := H.out.2.1; omega), { hI with to_ := ⟨F, by
          rw [List.map_append, List.foldl_append]
          simp only [List.map_cons, List.map_nil, List.foldl_cons, List.foldl_nil, hpt]
          exact g1, g2, g3⟩ }⟩)
      clear hI g1 g2 g3 hm hpt
      gi_wp2
      exact HFin.out
  case done =>
    rintro D xs W hD hxs hI hK
    have hfold := pour_fold H.out.2.2.2.2.2.2.1 L1.length (Nat.le_refl _)
    rw [List.take_length, show L1.length = (toldP L1).length by simp, List.take_length] at hfold
    obtain ⟨F, g1, g2, g3⟩ := hI.to_
    rw [hxs, hfold] at g1
    have x0 := cell_in hI.b0 (i := 0) rfl
    obtain ⟨X1, f, hX1, hf, hF⟩ := classOf (fun y => y.cell? ⟨w.heap.size, 0, none⟩ = some (.int .i64 at_)) (w := W.drew) x0
    have H0 := Lib.hid (hF W.drew x0)
    have hb0W : Below w0.heap.size w0 W.drew := belowN hI.below 1
    have hfr := hI.from_.below (belowN (Below.refl W.heap.size W) 1)
    have HL := Lib.hid (packLen (w := W.drew) hfr)
    have HDl := Lib.hid (packDelete (w := W.drew) hfr (H.out.1.below hb0W) (at_ : Int) ((L1.length : Int) - (at_ : Int)) (by omega) (by omega))
    rw [show (L1.length : Int) - (at_ : Int) = ((L1.length - at_ : Nat) : Int) by omega, delP_ok (by omega), show at_ + (L1.length - at_) = L1.length by omega, List.drop_length, List.append_nil] at HDl
    rw [show ((L1.length - at_ : Nat) : Int) = (L1.length : Int) - (at_ : Int) by omega] at HDl
    have HI := Lib.hid (And.intro hI (And.intro g1 (And.intro g2 (And.intro g3 (And.intro hK hD)))))
    clear hI hK g1 g2 g3 hfr hb0W hF hxs hfold
    generalize L1.length = nL at *
    go_wp2_with fail
    refine wp_region_text ⟨[3, 6], [], 6⟩ (fun w' => ∃ x : X1, w' = f x) (by kernel_rfl) (by kernel_rfl) H0.out ?_
    refine wpC_seg false (H0.out) 3 0 _ _ (by rfl) (by rfl) ?_
    simp only [List.take_succ_cons, List.take_zero, List.drop_succ_cons, List.drop_zero, Bool.false_eq_true, if_false, Nat.zero_add, Nat.reduceAdd]
    repeat (go_big_quiet_step (fail))
    refine wpQuiet_nil ?_
    refine wpC_loud (by rfl) (by rfl) fun K hK => ?_
    go_wp2_with fail
    refine HL.out.mono ?_
    rintro e W2 ⟨rfl, rfl⟩
    refine hK _ _ (fun _ => H0.out) ?_
    clear hK
    refine wpC_seg false (H0.out) 2 4 _ _ (by rfl) (by rfl) ?_
    simp only [List.take_succ_cons, List.take_zero, List.drop_succ_cons, List.drop_zero, Bool.false_eq_true, if_false, Nat.zero_add, Nat.reduceAdd]
    repeat (go_big_quiet_step (fail))
    refine wpQuiet_nil ?_
    refine wpC_loud (by rfl) (by rfl) fun K hK => ?_
    go_wp2_with fail
    refine HDl.out.mono ?_
    rintro e W2 ⟨rfl, hP, hc⟩
    have HE := Lib.hid (And.intro hP hc)
    refine hK _ _ (fun h => absurd h (by decide)) ?_
    clear hK hP hc
    refine wpC_nil ?_
    have hFin : (∃ F1' F2', PackF (W2.putObj D (.deferred none)) p1 F1' (L1.take at_) ∧ PackF (W2.putObj D (.deferred none)) p2 F2' (L2 ++ L1.drop at_) ∧ Fresh w F1 F1' ∧ Fresh w F2 F2' ∧ ∀ k, F1' k → ¬ F2' k) ∧ Chg (fun k => F1 k ∨ F2 k) w (W2.putObj D (.deferred none)) ∧ W2.heap[D]? = some (.deferred (some [])) := by
      have h' := H.out
      obtain ⟨hI, g1, g2, g3, hK, hD⟩ := HI.out
      obtain ⟨⟨F1', q1, q2⟩, hc⟩ := HE.out
      have hsz : w.heap.size ≤ W.heap.size := hI.chg.size
      have hlt1 : ∀ k, F1 k → k < w.heap.size := h'.2.2.2.2.2.2.2.2.2.2
      have hK2 : W2.heap[D]? = some (.deferred (some [])) := hc.keep (show W.drew.heap[D]? = _ from hK) fun hF => by
        have := hlt1 D hF
        have := HW5.out.2
        omega
      have hg := grownBy_putObj' W2 D (.deferred none)
      have hr : ∀ r, some D = some r → ∃ o : Obj, W2.heap[r]? = some o ∧ o.isCells = false := fun r e => by cases e; exact ⟨_, hK2, rfl⟩
      have p2' : PackF W2 p2 F (L2 ++ L1.drop at_) := (g1.below (belowN (Below.refl _ _) 1)).chg hc fun k h1 h2 => by
        rcases g2 k h1 with h3 | h3
        · exact h'.2.2.1 k h2 h3
        · have := hlt1 k h2; omega
      refine ⟨⟨F1', F, q1.own hg hr, p2'.own hg hr, fun k hk => ?_, g2, fun k h1 h2 => ?_⟩, ?_, hK2⟩
      · exact (q2 k hk).imp id fun h => Nat.le_trans hsz h
      · rcases q2 k h1 with h3 | h3
        · rcases g2 k h2 with h4 | h4
          · exact h'.2.2.1 k h3 h4
          · have := hlt1 k h3; omega
        · have := g1.lt h2
          have : W.heap.size ≤ k := h3
          omega
      · refine ((hI.chg.mono fun k hk _ => .inr hk).trans ((Chg.drew F1 W).trans hc fun k hk _ => hk) fun k hk _ => .inl hk).trans (S' := fun k => k = D) ⟨hg.os, hg.tape, hg.output, hg.size, fun k hk hn => hg.block k hk fun e => hn (by cases e; rfl)⟩ fun k hk hlt => ?_
        subst hk
        have := HW5.out.2
        omega
    refine ⟨by simp, .inl ⟨_, _, rfl, run_takeDeferred hFin.2.2, ?_⟩⟩
    exact ⟨_, results_none rfl _ _ _, ⟨_, rfl⟩, hFin.1, hFin.2.1⟩
  case stop =>
    rintro D c pre W hD hpre hX hK
    exact hX.elim
end Go.Proofs.YtfbhddllimfdlaaDoor

/- quick: the row as an object; places; New, Len, place, Get. -/
namespace Go.Proofs.YtfbhddllimfdlaaDoor
set_option linter.unusedVariables false
set_option linter.unusedSimpArgs false
open Go.RowKit
/-- No pack is empty, none is too long. -/
def Good (Ns : List Nd) : Prop := ∀ nd ∈ Ns, nd.T ≠ [] ∧ nd.T.length ≤ 32
theorem sum_bound (L : List ByteArray) (h : ∀ s ∈ L, s.size ≤ 65536) : (L.map ByteArray.size).sum ≤ 65536 * L.length := by
  induction L with
  | nil => simp
  | cons s l ih =>
    have h1 := h s (by simp)
    have h2 := ih fun x hx => h x (by simp [hx])
    simp only [List.map_cons, List.sum_cons, List.length_cons]
    omega
theorem few_size {L : List ByteArray} (h : ∀ s ∈ L, s.size ≤ 65536) (hn : L.length ≤ 100) : sizeP L ≤ 100000000 := by
  have h1 := body_le L h
  have h2 := sum_bound L h
  unfold sizeP totalT at *
  omega
theorem okl_few {L : List ByteArray} (h : ∀ s ∈ L, s.size ≤ 65536) (hn : L.length ≤ 100) : OKL L :=
  ⟨by have := few_size h hn; omega, by omega, h⟩
section
variable {Ns A B A' B' : List Nd} {nd nd' : Nd} {m pl pl' : Nat}
theorem Good.nil_of {A : List Nd} (h : Good A) (h0 : (flatN A).length = 0) : A = [] := by
  cases A with
  | nil => rfl
  | cons u l =>
    exfalso
    rw [flat_cons, List.length_append] at h0
    exact (h u (by simp)).1 (List.eq_nil_of_length_eq_zero (by omega))
theorem At.aux (g : Good Ns) (h : At Ns m A nd B pl) (C : List Nd) (e : At Ns m (A ++ nd :: C) nd' B' pl') : False := by
  have h1 := h.sum
  have h2 := e.sum
  have h3 := h.le
  rw [flat_append, flat_cons, List.length_append, List.length_append] at h2
  have h4 : pl' = 0 := by omega
  have h5 : m = 0 := by
    rcases Nat.eq_zero_or_pos m with h | h
    · exact h
    · have := e.pos h; omega
  have : nd.T.length = 0 := by omega
  exact (g nd (by rw [h.eq]; simp)).1 (List.eq_nil_of_length_eq_zero this)
theorem At.unique (g : Good Ns) (h : At Ns m A nd B pl) (h' : At Ns m A' nd' B' pl') : A = A' ∧ nd = nd' ∧ B = B' ∧ pl = pl' := by
  have e := h.eq.symm.trans h'.eq
  rcases List.append_eq_append_iff.1 e with ⟨C, h1, h2⟩ | ⟨C, h1, h2⟩
  · cases C with
    | nil =>
      simp only [List.append_nil] at h1
      simp only [List.nil_append, List.cons.injEq] at h2
      subst h1
      have h3 := h.sum
      have h4 := h'.sum
      exact ⟨rfl, h2.1, h2.2, by omega⟩
    | cons u C =>
      simp only [List.cons_append, List.cons.injEq] at h2
      obtain ⟨rfl, h2⟩ := h2
      subst h1
      exact (h.aux g C h').elim
  · cases C with
    | nil =>
      simp only [List.append_nil] at h1
      simp only [List.nil_append, List.cons.injEq] at h2
      subst h1
      have h3 := h.sum
      have h4 := h'.sum
      exact ⟨rfl, h2.1.symm, h2.2.symm, by omega⟩
    | cons u C =>
      simp only [List.cons_append, List.cons.injEq] at h2
      obtain ⟨rfl, h2⟩ := h2
      subst h1
      exact (h'.aux g C h).elim
theorem At.flat (h : At Ns m A nd B pl) : flatN Ns = flatN A ++ nd.T ++ flatN B := by rw [h.eq, flat_append, flat_cons, List.append_assoc]
theorem At.take (h : At Ns m A nd B pl) : (flatN Ns).take m = flatN A ++ nd.T.take pl := by
  rw [h.flat, ← h.sum, List.append_assoc, List.take_length_add_append, List.take_append_of_le_length h.le]
theorem At.drop (h : At Ns m A nd B pl) : (flatN Ns).drop m = nd.T.drop pl ++ flatN B := by
  rw [h.flat, ← h.sum, List.append_assoc, List.drop_length_add_append, List.drop_append_of_le_length h.le]
/-- The text ahead of a place. -/
theorem At.get (h : At Ns (m + 1) A nd B pl) (x : ByteArray) : (flatN Ns).getD m x = nd.T.getD (pl - 1) x := by
  have hp := h.pos (by omega)
  have h1 := h.sum
  have h2 := h.le
  have e : m = (flatN A).length + (pl - 1) := by omega
  rw [h.flat, List.append_assoc, List.getD, e, List.getElem?_append_right (by omega), Nat.add_sub_cancel_left, List.getElem?_append_left (by omega), List.getD]
end
/-- A long row as an object: it tells L, and its blocks are F. -/
def QuickF (w : World) (q : Nat) (F : Nat → Prop) (L : List ByteArray) : Prop := ∃ Ns, QRow w q Ns (L.length : Nat) ∧ Good Ns ∧ flatN Ns = L ∧ ∀ k, F k ↔ foot q Ns k
/-- So many has each pack. -/
def lensN (Ns : List Nd) : List Nat := Ns.map fun nd => nd.T.length
/-- The same, with what each pack has. -/
def QuickL (w : World) (q : Nat) (F : Nat → Prop) (L : List ByteArray) (ls : List Nat) : Prop := ∃ Ns, QRow w q Ns (L.length : Nat) ∧ Good Ns ∧ flatN Ns = L ∧ lensN Ns = ls ∧ ∀ k, F k ↔ foot q Ns k
theorem QuickL.toF {w : World} {q : Nat} {F : Nat → Prop} {L : List ByteArray} {ls : List Nat} (h : QuickL w q F L ls) : QuickF w q F L := by
  obtain ⟨Ns, h1, h2, h3, h4, h5⟩ := h; exact ⟨Ns, h1, h2, h3, h5⟩
theorem QuickF.toL {w : World} {q : Nat} {F : Nat → Prop} {L : List ByteArray} (h : QuickF w q F L) : ∃ ls, QuickL w q F L ls := by
  obtain ⟨Ns, h1, h2, h3, h5⟩ := h; exact ⟨_, Ns, h1, h2, h3, rfl, h5⟩
theorem QuickL.chg {w w' : World} {q : Nat} {F : Nat → Prop} {L : List ByteArray} {ls : List Nat} (h : QuickL w q F L ls) {S : Nat → Prop} (hc : Chg S w w') (hn : ∀ k, F k → ¬ S k) : QuickL w' q F L ls := by
  obtain ⟨Ns, h1, h2, h3, h4, h5⟩ := h
  exact ⟨Ns, h1.chg hc fun k hk => hn k ((h5 k).2 hk), h2, h3, h4, h5⟩
theorem QuickL.below {w w' : World} {q : Nat} {F : Nat → Prop} {L : List ByteArray} {ls : List Nat} (h : QuickL w q F L ls) (hb : Below w.heap.size w w') : QuickL w' q F L ls := h.chg (Chg.of_below (fun _ => False) hb) fun _ _ => id
section
variable {w w' : World} {q : Nat} {F : Nat → Prop} {L : List ByteArray}
theorem QuickF.lt (h : QuickF w q F L) {k : Nat} (hk : F k) : k < w.heap.size := by
  obtain ⟨Ns, h1, _, _, h4⟩ := h
  exact h1.foot_lt ((h4 k).1 hk)
theorem QuickF.head (h : QuickF w q F L) : F q := by obtain ⟨Ns, h1, _, _, h4⟩ := h; exact (h4 q).2 (.inl rfl)
theorem QuickF.chg (h : QuickF w q F L) {S : Nat → Prop} (hc : Chg S w w') (hn : ∀ k, F k → ¬ S k) : QuickF w' q F L := by
  obtain ⟨Ns, h1, h2, h3, h4⟩ := h
  exact ⟨Ns, h1.chg hc fun k hk => hn k ((h4 k).2 hk), h2, h3, h4⟩
theorem QuickF.below (h : QuickF w q F L) (hb : Below w.heap.size w w') : QuickF w' q F L := h.chg (Chg.of_below (fun _ => False) hb) fun _ _ => id
theorem QuickF.small (h : QuickF w q F L) {s : ByteArray} (hs : s ∈ L) : s.size ≤ 65536 := by
  obtain ⟨Ns, h1, _, rfl, _⟩ := h
  obtain ⟨T, hT, hsT⟩ := List.mem_flatten.1 hs
  obtain ⟨nd, hm, rfl⟩ := List.mem_map.1 hT
  exact (h1.packs nd hm).ok.each s hsT
end
set_option maxHeartbeats 800000 in
set_option maxRecDepth 100000 in
theorem quickNew (w : World) : Calls Tryd.prog 21 #[] w fun e w' => e = .returned (pv w.heap.size) ∧ QuickL w' w.heap.size (fun k => k = w.heap.size) [] [] ∧ Below w.heap.size w w' := by
  obtain ⟨w1, hw1⟩ : ∃ w1, w1 = w.alloc (.cells #[.bool true, .pointer none, .pointer none, .int .i64 0] 96) := ⟨_, rfl⟩
  have HF := Lib.hid (show QuickL w1 w.heap.size (fun k => k = w.heap.size) [] [] ∧ Below w.heap.size w w1 from
    ⟨⟨[], ⟨by rw [hw1]; exact heap_new _ _, trivial, by simp, List.Pairwise.nil⟩, by intro nd h; simp at h, rfl, rfl, fun k => by simp [foot]⟩, by rw [hw1]; exact (Below.refl _ _).alloc (Nat.le_refl _) _⟩)
  have HW := Lib.hid hw1
  clear hw1
  go_enter Tryd.func21, Tryd.ntmps21
  go_wp2_with fail
  rw [← HW.out]
  go_ret
  exact ⟨rfl, HF.out⟩
set_option maxHeartbeats 800000 in
set_option maxRecDepth 100000 in
theorem qlen_any {w : World} {q : Nat} {Ns : List Nd} {n : Int} (h : QRow w q Ns n) : Calls Tryd.prog 25 #[pv q] w fun e w' => e = .returned (.int .i64 n) ∧ w = w' := by
  have x3 : w.cell? ⟨q, 3, none⟩ = some (.int .i64 n) := cell_in h.head (i := 3) rfl
  clear h
  go_enter Tryd.func25, Tryd.ntmps25
  go_wp2_with fail
  go_ret
  exact ⟨rfl, rfl⟩
theorem quickLen {w : World} {q : Nat} {F : Nat → Prop} {L : List ByteArray} (h : QuickF w q F L) : Calls Tryd.prog 25 #[pv q] w fun e w' => e = .returned (.int .i64 L.length) ∧ w = w' := by
  obtain ⟨Ns, h1, _⟩ := h; exact qlen_any h1
/-- The place that is meant. -/
def qplN (n : Nat) (a : Int) : Int := if a < 0 then a + n else a
def qplB (n : Nat) (a : Int) : Bool := decide (0 ≤ qplN n a) && decide (qplN n a < n)
set_option maxHeartbeats 1600000 in
set_option maxRecDepth 100000 in
theorem qplace_any {w : World} {q : Nat} {Ns : List Nd} {n : Nat} (h : QRow w q Ns n) (hn : n ≤ 1000000000) (a : Int) (ha : -9223372036854775808 ≤ a ∧ a ≤ 9223372036854775807) :
    Calls Tryd.prog 77 #[pv q, .int .i64 a] w fun e w' => e = .returned (.tuple #[.int .i64 (qplN n a), .bool (qplB n a)]) ∧ w = w' := by
  have HL := Lib.hid (qlen_any h)
  clear h
  by_cases h0 : a < 0
  · have d0 : decide (a < 0) = true := decide_eq_true h0
    have e0 : qplN n a = a + n := by unfold qplN; rw [if_pos h0]
    by_cases h1 : 0 ≤ a + n
    · have d1 : decide (0 ≤ a + (n : Int)) = true := decide_eq_true h1
      have d2 : decide (a + (n : Int) < n) = true := decide_eq_true (by omega)
      have e1 : qplB n a = true := by unfold qplB; rw [e0, d1, d2]; rfl
      rw [e0, e1]
      go_enter Tryd.func77, Tryd.ntmps77
      go_wp2_with fail
      refine HL.out.mono ?_
      rintro e w' ⟨rfl, rfl⟩
      go_wp2_with fail
      refine HL.out.mono ?_
      rintro e w' ⟨rfl, rfl⟩
      go_wp2_with fail
      go_ret2
      exact ⟨rfl, rfl⟩
    · have d1 : decide (0 ≤ a + (n : Int)) = false := decide_eq_false h1
      have e1 : qplB n a = false := by unfold qplB; rw [e0, d1]; rfl
      rw [e0, e1]
      go_enter Tryd.func77, Tryd.ntmps77
      go_wp2_with fail
      refine HL.out.mono ?_
      rintro e w' ⟨rfl, rfl⟩
      go_wp2_with fail
      go_ret2
      exact ⟨rfl, rfl⟩
  · have d0 : decide (a < 0) = false := decide_eq_false h0
    have e0 : qplN n a = a := by unfold qplN; rw [if_neg h0]
    have d1 : decide (0 ≤ a) = true := decide_eq_true (by omega)
    have e1 : qplB n a = decide (a < n) := by unfold qplB; rw [e0, d1]; rfl
    rw [e0, e1]
    go_enter Tryd.func77, Tryd.ntmps77
    go_wp2_with fail
    refine HL.out.mono ?_
    rintro e w' ⟨rfl, rfl⟩
    go_wp2_with fail
    go_ret2
    exact ⟨rfl, rfl⟩
def qgetV (L : List ByteArray) (a : Int) : Value := .tuple #[.string (if qplB L.length a then L.getD (qplN L.length a).toNat ByteArray.empty else ByteArray.empty), .bool (qplB L.length a)]
theorem getV_nat {T : List ByteArray} {k : Nat} (h : k < T.length) : getV T (k : Int) = .tuple #[.string (T.getD k ByteArray.empty), .bool true] := by
  have hp : placeN T.length k = k := by unfold placeN; rw [if_neg (by omega)]
  have hb : placeB T.length k = true := by unfold placeB; rw [hp]; simp; omega
  unfold getV
  rw [hb, hp]; simp
set_option maxHeartbeats 1600000 in
set_option maxRecDepth 100000 in
theorem quickGet {w : World} {q : Nat} {F : Nat → Prop} {L : List ByteArray} (h : QuickF w q F L) (hl : Laid w) (hn : L.length ≤ 1000000000) (a : Int) (ha : -9223372036854775808 ≤ a ∧ a ≤ 9223372036854775807) :
    Calls Tryd.prog 26 #[pv q, .int .i64 a] w fun e w' => e = .returned (qgetV L a) ∧ Below w.heap.size w w' := by
  obtain ⟨Ns, h1, h2, rfl, h4⟩ := h
  have HP := Lib.hid (qplace_any h1 hn a ha)
  cases hb : qplB (flatN Ns).length a with
  | false =>
    have hv : qgetV (flatN Ns) a = .tuple #[.string ByteArray.empty, .bool false] := by unfold qgetV; rw [hb]; simp
    rw [hv]
    rw [hb] at HP
    clear h1 h2 h4 hl hv hb
    generalize qplN (flatN Ns).length a = k at *
    go_enter Tryd.func26, Tryd.ntmps26
    go_wp2_with fail
    refine HP.out.mono ?_
    rintro e w' ⟨rfl, rfl⟩
    go_wp2_with fail
    go_ret2
    exact ⟨rfl, Below.refl _ _⟩
  | true =>
    have hk : 0 ≤ qplN (flatN Ns).length a ∧ qplN (flatN Ns).length a < (flatN Ns).length := by
      unfold qplB at hb
      simpa using hb
    obtain ⟨k, hkn⟩ : ∃ k : Nat, qplN (flatN Ns).length a = (k : Int) := ⟨(qplN (flatN Ns).length a).toNat, by omega⟩
    rw [hkn] at hk
    have hv : qgetV (flatN Ns) a = .tuple #[.string ((flatN Ns).getD k ByteArray.empty), .bool true] := by unfold qgetV; rw [hb, hkn]; simp
    rw [hv]
    rw [hb, hkn] at HP
    have HFd := Lib.hid (find_any h1 (k + 1) (by omega) (by omega))
    rw [show ((k + 1 : Nat) : Int) = (k : Int) + 1 by omega] at HFd
    have HH := Lib.hid (And.intro h1 (And.intro h2 hl))
    have HK := Lib.hid hk
    have hkb : k < 1000000000 := by omega
    clear h1 h2 h4 hl hv hb hkn hk
    obtain ⟨sv, hsv⟩ : ∃ sv, (flatN Ns).getD k ByteArray.empty = sv := ⟨_, rfl⟩
    rw [hsv]
    have HV := Lib.hid hsv
    clear hsv
    go_enter Tryd.func26, Tryd.ntmps26
    go_wp2_with fail
    refine HP.out.mono ?_
    rintro e w' ⟨rfl, rfl⟩
    go_wp2_with fail
    refine HFd.out.mono ?_
    rintro e w1 ⟨⟨hnil, _⟩ | ⟨A, nd, B, pl, hat, rfl⟩, b1⟩
    · exfalso
      have := HK.out.2
      rw [hnil] at this
      simp at this
      omega
    · have hq := HH.out.1
      rw [hat.eq] at hq
      have hq1 := hq.below b1
      have xn := cell_in hq1.node (i := 0) rfl
      have hpl := hat.pos (by omega)
      have hle := hat.le
      have HG := Lib.hid (packGet (hq1.packs nd (by simp)) (HH.out.2.2.below b1) ((pl - 1 : Nat) : Int) (by have := (hq1.packs nd (by simp)).ok.many; omega))
      rw [getV_nat (by omega), ← hat.get ByteArray.empty, HV.out, show ((pl - 1 : Nat) : Int) = (pl : Int) - 1 by omega] at HG
      have hpb : pl ≤ 1048576 := by have := (hq1.packs nd (by simp)).ok.many; omega
      have HB1 := Lib.hid b1
      clear hq hq1 hat b1 hle
      go_wp2_with fail
      refine HG.out.mono ?_
      rintro e w2 ⟨rfl, b2⟩
      have HB2 := Lib.hid (HB1.out.trans (b2.mono HB1.out.size))
      clear b2
      go_wp2_with fail
      go_ret2
      exact ⟨rfl, HB2.out⟩
end Go.Proofs.YtfbhddllimfdlaaDoor

/- quick: Insert. -/
namespace Go.Proofs.YtfbhddllimfdlaaDoor
set_option linter.unusedVariables false
set_option linter.unusedSimpArgs false
open Go.RowKit
section
variable {w w' : World} {q : Nat} {A B : List Nd} {u v nd : Nd} {n : Int}
/-- Two packs beside one another have changed. -/
theorem QRow.setPack2 (h : QRow w q (A ++ u :: v :: B) n) {Fu Fv : Nat → Prop} {Tu Tv : List ByteArray} (hc : Chg (fun k => u.F k ∨ v.F k) w w') (pu : PackF w' u.p Fu Tu) (pv : PackF w' v.p Fv Tv) (fu : Fresh w u.F Fu) (fv : Fresh w v.F Fv) (hd : ∀ k, Fu k → ¬ Fv k) :
    QRow w' q (A ++ ⟨u.x, u.p, Fu, Tu⟩ :: ⟨v.x, v.p, Fv, Tv⟩ :: B) n := by
  have ha := apart_mid.1 h.apart
  have hb := List.pairwise_cons.1 ha.2.1
  have hA : ∀ x ∈ A, x ∈ A ++ u :: v :: B := fun x hx => by simp [hx]
  have hB : ∀ x ∈ B, x ∈ A ++ u :: v :: B := fun x hx => by simp [hx]
  have iu : u ∈ A ++ u :: v :: B := by simp
  have iv : v ∈ A ++ u :: v :: B := by simp
  have hAu : ∀ x ∈ A, ∀ k, x.F k → ¬ Fu k := fun x hx k hk hF => by
    rcases fu k hF with h1 | h1
    · exact ha.2.2.1 x hx k hk h1
    · have := (h.packs x (hA x hx)).lt hk; omega
  have hAv : ∀ x ∈ A, ∀ k, x.F k → ¬ Fv k := fun x hx k hk hF => by
    rcases fv k hF with h1 | h1
    · exact ha.2.2.2.2 x hx v (by simp) k hk h1
    · have := (h.packs x (hA x hx)).lt hk; omega
  have hBu : ∀ x ∈ B, ∀ k, Fu k → ¬ x.F k := fun x hx k hF hk => by
    rcases fu k hF with h1 | h1
    · exact ha.2.2.2.1 x (by simp [hx]) k h1 hk
    · have := (h.packs x (hB x hx)).lt hk; omega
  have hBv : ∀ x ∈ B, ∀ k, Fv k → ¬ x.F k := fun x hx k hF hk => by
    rcases fv k hF with h1 | h1
    · exact hb.1 x hx k h1 hk
    · have := (h.packs x (hB x hx)).lt hk; omega
  refine h.repack (S := fun k => u.F k ∨ v.F k) (by simp [key]) hc (fun k hk => hk.elim (fun hk => ⟨u, iu, hk⟩) fun hk => ⟨v, iv, hk⟩) (fun x hx => ?_) ?_
  · simp only [List.mem_append, List.mem_cons] at hx
    rcases hx with hx | rfl | rfl | hx
    · exact (h.packs x (hA x hx)).chg hc fun k hk hS => hS.elim (ha.2.2.1 x hx k hk) (ha.2.2.2.2 x hx v (by simp) k hk)
    · exact pu
    · exact pv
    · exact (h.packs x (hB x hx)).chg hc fun k hk hS => hS.elim (fun hS => ha.2.2.2.1 x (by simp [hx]) k hS hk) fun hS => hb.1 x hx k hS hk
  · refine apart_mid.2 ⟨ha.1, List.pairwise_cons.2 ⟨hBv, hb.2⟩, hAu, fun x hx k h1 h2 => ?_, fun x hx y hy k h1 h2 => ?_⟩
    · rcases List.mem_cons.1 hx with rfl | hx
      · exact hd k h1 h2
      · exact hBu x hx k h1 h2
    · rcases List.mem_cons.1 hy with rfl | hy
      · exact hAv x hx k h1 h2
      · exact ha.2.2.2.2 x hx y (by simp [hy]) k h1 h2
end
def insQ (L : List ByteArray) (a : Int) (s : ByteArray) : Int × List ByteArray :=
  if a < 0 ∨ (L.length : Int) < a then (1, L) else if 65536 < s.size ∨ 1048576 ≤ L.length then (3, L) else (0, L.take a.toNat ++ [s] ++ L.drop a.toNat)
theorem insP_few {T : List ByteArray} (h : ∀ s ∈ T, s.size ≤ 65536) (hn : T.length ≤ 99) {i : Nat} (hi : i ≤ T.length) {s : ByteArray} (hs : s.size ≤ 65536) : insP T (i : Int) s = (0, T.take i ++ [s] ++ T.drop i) := by
  have h1 := few_size h (by omega)
  have h2 := entL_length s (by omega)
  unfold insP
  rw [if_neg (by omega), if_neg (by omega), if_neg (by omega), Int.toNat_natCast]
/-- The last part of Insert: one pack gets the text, the count is written. -/
theorem ins_last {w w2 : World} {q : Nat} {Ns A B : List Nd} {nd : Nd} {m pl n : Nat} {s : ByteArray} {F' : Nat → Prop} (h : QRow w q Ns (n : Nat)) (hat : At Ns m A nd B pl) (hg : Good A ∧ Good B) (hl : nd.T.length < 32) (hn : n = (flatN Ns).length) (hs : s.size ≤ 65536)
    (hp : PackF w2 nd.p F' (nd.T.take pl ++ [s] ++ nd.T.drop pl)) (hf : Fresh w nd.F F') (hc : Chg nd.F w w2) :
    let w3 := w2.setCell ⟨q, 3, none⟩ (.int .i64 ((n : Int) + 1))
    (∃ G, QuickL w3 q G ((flatN Ns).take m ++ [s] ++ (flatN Ns).drop m) (lensN A ++ (nd.T.length + 1) :: lensN B) ∧ Fresh w (foot q Ns) G) ∧ Chg (foot q Ns) w w3 ∧ w2.cell? ⟨q, 3, none⟩ = some (.int .i64 n) ∧ w2.frozen? ⟨q, 3, none⟩ = false := by
  intro w3
  have h0 := h
  rw [hat.eq] at h
  have hq2 := h.setPack hc hp hf
  have hq3 := hq2.setN ((n : Int) + 1)
  have hfl : flatN (A ++ ⟨nd.x, nd.p, F', nd.T.take pl ++ [s] ++ nd.T.drop pl⟩ :: B) = (flatN Ns).take m ++ [s] ++ (flatN Ns).drop m := by
    rw [hat.take, hat.drop, flat_append, flat_cons]
    simp [List.append_assoc]
  have hmle : m ≤ (flatN Ns).length := by
    have h1 := hat.sum
    have h2 := hat.le
    rw [hat.flat, List.length_append, List.length_append]; omega
  refine ⟨⟨foot q (A ++ ⟨nd.x, nd.p, F', nd.T.take pl ++ [s] ++ nd.T.drop pl⟩ :: B), ⟨_, ?_, ?_, hfl, ?_, fun k => Iff.rfl⟩, ?_⟩, ?_, cell_in hq2.head (i := 3) rfl, frozen_in hq2.head 3⟩
  · have : ((((flatN Ns).take m ++ [s] ++ (flatN Ns).drop m).length : Nat) : Int) = (n : Int) + 1 := by
      rw [List.length_append, List.length_append, List.length_take, List.length_drop, List.length_singleton]; omega
    rw [this]
    exact hq3
  · intro x hx
    simp only [List.mem_append, List.mem_cons] at hx
    rcases hx with hx | rfl | hx
    · exact hg.1 x hx
    · refine ⟨by simp, ?_⟩
      simp only [List.length_append, List.length_take, List.length_drop, List.length_singleton]; have := hat.le; omega
    · exact hg.2 x hx
  · have := hat.le
    unfold lensN
    simp only [List.map_append, List.map_cons, List.length_append, List.length_take, List.length_drop, List.length_singleton]
    congr 2
    omega
  · rintro k (rfl | ⟨x, hx, hk⟩)
    · exact .inl (.inl rfl)
    · simp only [List.mem_append, List.mem_cons] at hx
      rcases hx with hx | rfl | hx
      · exact .inl (.inr ⟨x, by rw [hat.eq]; simp [hx], hk⟩)
      · rcases hk with rfl | hk
        · exact .inl (.inr ⟨nd, by rw [hat.eq]; simp, .inl rfl⟩)
        · rcases hf k hk with hk | hk
          · exact .inl (.inr ⟨nd, by rw [hat.eq]; simp, .inr hk⟩)
          · exact .inr hk
      · exact .inl (.inr ⟨x, by rw [hat.eq]; simp [hx], hk⟩)
  · refine (hc.mono fun k hk _ => ?_).trans (Chg.setCell (fun k => k = q) w2 ⟨q, 3, none⟩ _ rfl) fun k hk _ => .inl hk
    exact .inr ⟨nd, by rw [hat.eq]; simp, .inr hk⟩
/-- What Insert makes of what the packs have. -/
def insL : List Nat → Nat → List Nat
  | [], _ => [1]
  | n :: l, m => if n < m then n :: insL l (m - n) else if n = 32 then (if m ≤ 16 then 17 :: 16 :: l else 16 :: 17 :: l) else (n + 1) :: l
theorem lens_flat (Ns : List Nd) : (lensN Ns).sum = (flatN Ns).length := by
  unfold lensN flatN
  rw [List.length_flatten, List.map_map]; rfl
theorem insL_at {pl n : Nat} {B : List Nat} (hpl : pl ≤ n) : ∀ {A : List Nat} {m : Nat}, A.sum + pl = m → (0 < m → 0 < pl) → (∀ x ∈ A, 0 < x) → insL (A ++ n :: B) m = A ++ if n = 32 then (if pl ≤ 16 then 17 :: 16 :: B else 16 :: 17 :: B) else (n + 1) :: B
  | [], m, h, _, _ => by
    simp only [List.sum_nil, Nat.zero_add] at h
    subst h
    simp only [List.nil_append, insL]
    rw [if_neg (by omega)]
  | x :: A, m, h, hp, hx => by
    have h0 := hx x (by simp)
    simp only [List.sum_cons] at h
    have hpp := hp (by omega)
    simp only [List.cons_append, insL]
    rw [if_pos (by omega), insL_at hpl (A := A) (m := m - x) (by omega) (fun _ => hpp) (fun y hy => hx y (by simp [hy]))]
theorem At.lens {Ns A B : List Nd} {nd : Nd} {m pl : Nat} (h : At Ns m A nd B pl) (hg : Good Ns) : insL (lensN Ns) m = lensN A ++ if nd.T.length = 32 then (if pl ≤ 16 then 17 :: 16 :: lensN B else 16 :: 17 :: lensN B) else (nd.T.length + 1) :: lensN B := by
  have e : lensN Ns = lensN A ++ nd.T.length :: lensN B := by rw [h.eq]; simp [lensN]
  rw [e]
  refine insL_at h.le (by rw [lens_flat]; exact h.sum) h.pos fun x hx => ?_
  obtain ⟨u, hu, rfl⟩ := List.mem_map.1 hx
  exact List.length_pos_iff.2 (hg u (by rw [h.eq]; simp [hu])).1
/-- A full pack in two. -/
theorem split_at {Ns A B : List Nd} {nd u v : Nd} {m pl : Nat} (hat : At Ns m A nd B pl) (hu : u.T = nd.T.take 16) (hv : v.T = nd.T.drop 16) (h32 : nd.T.length = 32) : (pl ≤ 16 ∧ At (A ++ u :: v :: B) m A u (v :: B) pl) ∨ (16 < pl ∧ At (A ++ u :: v :: B) m (A ++ [u]) v B (pl - 16)) := by
  have h1 := hat.sum
  have h2 := hat.le
  have hul : u.T.length = 16 := by rw [hu, List.length_take]; omega
  have hvl : v.T.length = 16 := by rw [hv, List.length_drop]; omega
  by_cases h : pl ≤ 16
  · exact .inl ⟨h, rfl, h1, by omega, hat.pos⟩
  · refine .inr ⟨by omega, by simp, ?_, by omega, fun _ => by omega⟩
    rw [flat_append, flat_cons, flat_nil, List.append_nil, List.length_append]
    omega
theorem split_flat {Ns A B : List Nd} {nd u v : Nd} {m pl : Nat} (hat : At Ns m A nd B pl) (hu : u.T = nd.T.take 16) (hv : v.T = nd.T.drop 16) : flatN (A ++ u :: v :: B) = flatN Ns := by
  rw [hat.flat, flat_append, flat_cons, flat_cons, hu, hv, ← List.append_assoc (nd.T.take 16), List.take_append_drop, List.append_assoc]
end Go.Proofs.YtfbhddllimfdlaaDoor

/- quick: Insert, walked. -/
namespace Go.Proofs.YtfbhddllimfdlaaDoor
set_option linter.unusedVariables false
set_option linter.unusedSimpArgs false
open Go.RowKit
theorem foot_ge {w0 : World} {q : Nat} {Ns : List Nd} {F : Nat → Prop} (h4 : ∀ k, F k ↔ foot q Ns k) (kF : ∀ k, F k → w0.heap.size ≤ k) : ∀ k, foot q Ns k → w0.heap.size ≤ k := fun k hk => kF k ((h4 k).2 hk)
set_option maxHeartbeats 6400000 in
set_option maxRecDepth 100000 in
theorem quickInsertL {w0 w : World} (hl : Laid w0) (hb0 : Below w0.heap.size w0 w) (hN : w0.heap.size ≤ w.heap.size) {q : Nat} {F : Nat → Prop} {L : List ByteArray} {ls : List Nat} (h : QuickL w q F L ls) (kF : ∀ k, F k → w0.heap.size ≤ k) (a : Int) (ha : -9223372036854775808 ≤ a ∧ a ≤ 9223372036854775807) (s : ByteArray) (hs : s.size ≤ 9000000000000000000) :
    Calls Tryd.prog 22 #[pv q, .int .i64 a, .string s] w fun e w' => e = .returned (.int .i64 (insQ L a s).1) ∧ (∃ F', QuickL w' q F' (insQ L a s).2 (if (insQ L a s).1 = 0 then insL ls a.toNat else ls) ∧ Fresh w F F') ∧ Chg F w w' := by
  have hF0 := h
  obtain ⟨Ns, h1, h2, h3, hls, h4⟩ := h
  have q0 : w.cell? ⟨q, 0, none⟩ = some (.bool true) := cell_in h1.head (i := 0) rfl
  have q3 : w.cell? ⟨q, 3, none⟩ = some (.int .i64 (L.length : Nat)) := cell_in h1.head (i := 3) rfl
  have HS := Lib.hid (show (∃ F', QuickL w q F' L ls ∧ Fresh w F F') ∧ Chg F w w from ⟨⟨F, hF0, fun k hk => .inl hk⟩, Chg.refl _ _⟩)
  clear hF0
  by_cases c1 : a < 0 ∨ (L.length : Int) < a
  · have hv : insQ L a s = (1, L) := by unfold insQ; rw [if_pos c1]
    rw [hv, if_neg (by simp)]
    clear hv h1 h2 h3 h4 hl hb0 kF
    generalize L.length = n at *
    by_cases c2 : a < 0
    · have d1 : decide (a < 0) = true := decide_eq_true c2
      clear c1 c2
      go_enter Tryd.func22, Tryd.ntmps22
      go_wp2_with fail
      go_ret
      exact ⟨rfl, HS.out⟩
    · have d1 : decide (a < 0) = false := decide_eq_false c2
      have d2 : decide ((n : Int) < a) = true := decide_eq_true (by omega)
      clear c1 c2
      go_enter Tryd.func22, Tryd.ntmps22
      go_wp2_with fail
      go_ret
      exact ⟨rfl, HS.out⟩
  · obtain ⟨m, rfl⟩ : ∃ m : Nat, a = (m : Int) := ⟨a.toNat, by omega⟩
    have d1 : decide ((m : Int) < 0) = false := decide_eq_false (by omega)
    have d2 : decide ((L.length : Int) < (m : Int)) = false := decide_eq_false (by omega)
    have d2' : decide (L.length < m) = false := decide_eq_false (by omega)
    by_cases c3 : 65536 < s.size ∨ 1048576 ≤ L.length
    · have hv : insQ L m s = (3, L) := by unfold insQ; rw [if_neg c1, if_pos c3]
      rw [hv, if_neg (by simp)]
      clear hv h1 h2 h3 h4 hl hb0 kF c1
      generalize L.length = n at *
      by_cases c4 : 65536 < s.size
      · have d3 : decide ((65536 : Int) < (s.size : Int)) = true := decide_eq_true (by omega)
        clear c3 c4
        go_enter Tryd.func22, Tryd.ntmps22
        go_wp2_with fail
        go_ret
        exact ⟨rfl, HS.out⟩
      · have d3 : decide ((65536 : Int) < (s.size : Int)) = false := decide_eq_false (by omega)
        have d4 : decide ((1048576 : Int) ≤ (n : Int)) = true := decide_eq_true (by omega)
        clear c3 c4
        go_enter Tryd.func22, Tryd.ntmps22
        go_wp2_with fail
        go_ret
        exact ⟨rfl, HS.out⟩
    · have hv : insQ L m s = (0, L.take m ++ [s] ++ L.drop m) := by unfold insQ; rw [if_neg c1, if_neg c3, Int.toNat_natCast]
      rw [hv, if_pos rfl, Int.toNat_natCast]
      have d3 : decide ((65536 : Int) < (s.size : Int)) = false := decide_eq_false (by omega)
      have d4 : decide ((1048576 : Int) ≤ (L.length : Int)) = false := decide_eq_false (by omega)
      have hmn : m ≤ L.length := by omega
      have hnb : L.length < 1048576 := by omega
      have hfn : (flatN Ns).length = L.length := by rw [h3]
      have kq := foot_ge h4 kF
      have H := Lib.hid (And.intro hl (And.intro hb0 (And.intro hN (And.intro kq (And.intro h4 (show s.size ≤ 65536 by omega))))))
      -- what the last part gives, in the form of the contract
      have HRes := Lib.hid (show ∀ Ns2 wc w6, (flatN Ns2 = L ∧ (∀ k, foot q Ns2 k → foot q Ns k ∨ w.heap.size ≤ k) ∧ Chg (foot q Ns) w wc) → (∃ G, QuickL w6 q G ((flatN Ns2).take m ++ [s] ++ (flatN Ns2).drop m) (insL ls m) ∧ Fresh wc (foot q Ns2) G) → Chg (foot q Ns2) wc w6 → (∃ F', QuickL w6 q F' (L.take m ++ [s] ++ L.drop m) (insL ls m) ∧ Fresh w F F') ∧ Chg F w w6 from fun Ns2 wc w6 ⟨e1, e2, e3⟩ ⟨G, g1, g2⟩ e4 => by
        rw [e1] at g1
        refine ⟨⟨G, g1, fun k hk => ?_⟩, (e3.trans e4 fun k hk hlt => ?_).mono fun k hk _ => (h4 k).2 hk⟩
        · rcases g2 k hk with h5 | h5
          · exact (e2 k h5).imp (fun h6 => (h4 k).2 h6) id
          · exact .inr (Nat.le_trans e3.size h5)
        · rcases e2 k hk with h5 | h5
          · exact h5
          · omega)
      clear hv c1 c3 hl hb0 kF HS hs hN
      cases Ns with
      | nil =>
        have hn0 : L.length = 0 := by rw [← hfn]; rfl
        have HN := Lib.hid (packNew w)
        have q1 : w.cell? ⟨q, 1, none⟩ = some (.pointer none) := cell_in h1.head (i := 1) rfl
        have HQ0 := Lib.hid (And.intro h1 (And.intro h3 hn0))
        clear h1 h2 h3 h4 kq hfn hn0
        generalize L.length = n at *
        go_enter Tryd.func22, Tryd.ntmps22
        go_wp2_with fail
        refine HN.out.mono ?_
        rintro e w1 ⟨p, rfl, ⟨F1, p1, k1⟩, _, ch1⟩
        have hq1 := HQ0.out.1.chg ch1 fun _ _ => id
        have HLk := Lib.hid (link_first hq1 p1)
        have HC1 := Lib.hid (And.intro ch1 (And.intro k1 hq1))
        clear p1 k1 ch1 hq1 q0 q1 q3
        go_wp2_with fail
        refine HLk.out.mono ?_
        rintro e w2 ⟨rfl, hq2, ch2⟩
        have HFd := Lib.hid (find_any hq2 0 (by simp) (by omega))
        have HC2 := Lib.hid (And.intro ch2 hq2)
        clear ch2 hq2 HLk
        obtain rfl : m = 0 := by have := HQ0.out.2.2; omega
        rw [show ((0 : Nat) : Int) = 0 from rfl] at HFd
        go_wp2_with fail
        refine HFd.out.mono ?_
        rintro e w3 ⟨⟨hnil, _⟩ | ⟨A, nd, B, pl, hat, rfl⟩, b3⟩
        · exact absurd hnil (by simp)
        · have hch : Chg (foot q []) w w3 := (HC1.out.1.mono fun k hk _ => hk.elim).trans ((HC2.out.1.mono fun k hk _ => (.inl hk : foot q [] k)).trans (Chg.of_below (foot q []) b3) fun k hk _ => hk) fun k hk _ => hk
          have HB := Lib.hid (show Below w0.heap.size w0 w3 from belowChg H.out.2.1 hch H.out.2.2.1 fun k hk _ => H.out.2.2.2.1 k hk)
          have hAB : A = [] ∧ B = [] ∧ nd = ⟨w1.heap.size, p, F1, []⟩ := by
            have e := hat.eq
            cases A with
            | nil => simp only [List.nil_append, List.cons.injEq] at e; exact ⟨rfl, e.2.symm, e.1.symm⟩
            | cons u A => simp at e
          have hfr : (∀ k, foot q [⟨w1.heap.size, p, F1, []⟩] k → foot q [] k ∨ w.heap.size ≤ k) := fun k hk => by
            rcases hk with hk | ⟨u, hu, hk⟩
            · exact .inl (.inl hk)
            · rw [List.mem_singleton] at hu
              subst hu
              rcases hk with hk | hk
              · exact .inr (by have := HC1.out.1.size; rw [hk]; exact this)
              · exact .inr (HC1.out.2.1 k hk)
          have HQ := Lib.hid (HC2.out.2.below b3)
          have HAt := Lib.hid hat
          have hlt : nd.T.length < 32 := by rw [hAB.2.2]; simp
          have HG := Lib.hid (show Good A ∧ Good B by rw [hAB.1, hAB.2.1]; exact ⟨fun _ h => by simp at h, fun _ h => by simp at h⟩)
          have HLs := Lib.hid (show lensN A ++ (nd.T.length + 1) :: lensN B = insL ls 0 by rw [hAB.1, hAB.2.1, hAB.2.2, ← hls]; rfl)
          have HNn := Lib.hid (show n = (flatN [(⟨w1.heap.size, p, F1, []⟩ : Nd)]).length by rw [HQ0.out.2.2]; rfl)
          have HFr := Lib.hid (And.intro (show flatN [(⟨w1.heap.size, p, F1, []⟩ : Nd)] = L by rw [← HQ0.out.2.1]; rfl) (And.intro hfr hch))
          clear hat hAB hfr hch b3
          have hq4 := HQ.out
          rw [HAt.out.eq] at hq4
          have xn := cell_in hq4.node (i := 0) rfl
          have hp4 := hq4.packs nd (by simp)
          have hle := HAt.out.le
          have hpb : pl ≤ 32 := by omega
          have HL4 := Lib.hid (packLen hp4)
          have hne : ((nd.T.length : Int) == 32) = false := by rw [beq_eq_false_iff_ne]; omega
          have HI4 := Lib.hid (packInsert hp4 (H.out.1.below HB.out) (pl : Int) (by omega) s (by have := H.out.2.2.2.2.2; omega))
          rw [insP_few hp4.ok.each (by omega) hle H.out.2.2.2.2.2] at HI4
          have HFin := Lib.hid (fun w5 F5 (h5 : PackF w5 nd.p F5 (nd.T.take pl ++ [s] ++ nd.T.drop pl)) (h6 : Fresh w3 nd.F F5) (h7 : Chg nd.F w3 w5) => ins_last HQ.out HAt.out HG.out hlt HNn.out H.out.2.2.2.2.2 h5 h6 h7)
          obtain ⟨nT, hnT⟩ : ∃ nT, nd.T.length = nT := ⟨_, rfl⟩
          rw [hnT] at HL4 hne hlt hle
          clear hq4 hp4 hnT
          go_wp2_with fail
          refine HL4.out.mono ?_
          rintro e w5 ⟨rfl, rfl⟩
          go_wp2_with fail
          refine HI4.out.mono ?_
          rintro e w5 ⟨rfl, ⟨F5, h5, h6⟩, h7⟩
          have HE := Lib.hid (HFin.out w5 F5 h5 h6 h7)
          have y0 := HE.out.2.2.1
          have y1 := HE.out.2.2.2
          clear h5 h6 h7
          go_wp2_with fail
          go_ret
          exact ⟨rfl, HRes.out _ w3 _ HFr.out (HLs.out ▸ HE.out.1) HE.out.2.1⟩
      | cons u Ns =>
        have q1 : w.cell? ⟨q, 1, none⟩ = some (pv u.x) := cell_in h1.head (i := 1) rfl
        have HFd := Lib.hid (find_any h1 m (by omega) (by omega))
        have HQ0 := Lib.hid (And.intro h1 (And.intro h2 (And.intro h3 hfn)))
        clear h1 h2 h3 h4 kq hfn
        generalize hnn : L.length = n at *
        go_enter Tryd.func22, Tryd.ntmps22
        go_wp2_with fail
        refine HFd.out.mono ?_
        rintro e w3 ⟨⟨hnil, _⟩ | ⟨A, nd, B, pl, hat, rfl⟩, b3⟩
        · exact absurd hnil (by simp)
        · have HQ := Lib.hid (HQ0.out.1.below b3)
          have HB := Lib.hid (show Below w0.heap.size w0 w3 from H.out.2.1.trans (b3.mono H.out.2.2.1))
          have HAt := Lib.hid hat
          have hgd := HQ0.out.2.1
          have HG := Lib.hid (show Good A ∧ Good B by
            rw [hat.eq] at hgd
            exact ⟨fun x hx => hgd x (by simp [hx]), fun x hx => hgd x (by simp [hx])⟩)
          have hle32 : nd.T.length ≤ 32 := (hgd nd (by rw [hat.eq]; simp)).2
          have hB3 := b3
          have HB3 := Lib.hid b3
          clear hgd b3 hat hB3
          by_cases hlt : nd.T.length < 32
          · have HLs := Lib.hid (show lensN A ++ (nd.T.length + 1) :: lensN B = insL ls m by rw [← hls, HAt.out.lens HQ0.out.2.1, if_neg (by omega)])
            have HNn := Lib.hid (show n = (flatN (u :: Ns)).length from HQ0.out.2.2.2.symm)
            have HFr := Lib.hid (And.intro HQ0.out.2.2.1 (And.intro (show ∀ k, foot q (u :: Ns) k → foot q (u :: Ns) k ∨ w.heap.size ≤ k from fun k hk => .inl hk) (Chg.of_below (foot q (u :: Ns)) HB3.out)))
            have hq4 := HQ.out
            rw [HAt.out.eq] at hq4
            have xn := cell_in hq4.node (i := 0) rfl
            have hp4 := hq4.packs nd (by simp)
            have hle := HAt.out.le
            have hpb : pl ≤ 32 := by omega
            have HL4 := Lib.hid (packLen hp4)
            have hne : ((nd.T.length : Int) == 32) = false := by rw [beq_eq_false_iff_ne]; omega
            have HI4 := Lib.hid (packInsert hp4 (H.out.1.below HB.out) (pl : Int) (by omega) s (by have := H.out.2.2.2.2.2; omega))
            rw [insP_few hp4.ok.each (by omega) hle H.out.2.2.2.2.2] at HI4
            have HFin := Lib.hid (fun w5 F5 (h5 : PackF w5 nd.p F5 (nd.T.take pl ++ [s] ++ nd.T.drop pl)) (h6 : Fresh w3 nd.F F5) (h7 : Chg nd.F w3 w5) => ins_last HQ.out HAt.out HG.out hlt HNn.out H.out.2.2.2.2.2 h5 h6 h7)
            obtain ⟨nT, hnT⟩ : ∃ nT, nd.T.length = nT := ⟨_, rfl⟩
            rw [hnT] at HL4 hne hlt hle
            clear hq4 hp4 hnT
            go_wp2_with fail
            refine HL4.out.mono ?_
            rintro e w5 ⟨rfl, rfl⟩
            go_wp2_with fail
            refine HI4.out.mono ?_
            rintro e w5 ⟨rfl, ⟨F5, h5, h6⟩, h7⟩
            have HE := Lib.hid (HFin.out w5 F5 h5 h6 h7)
            have y0 := HE.out.2.2.1
            have y1 := HE.out.2.2.2
            clear h5 h6 h7
            go_wp2_with fail
            go_ret
            exact ⟨rfl, HRes.out _ w3 _ HFr.out (HLs.out ▸ HE.out.1) HE.out.2.1⟩
          · have h32 : nd.T.length = 32 := by omega
            have hq4 := HQ.out
            rw [HAt.out.eq] at hq4
            have hp4 := hq4.packs nd (by simp)
            have HL4 := Lib.hid (packLen hp4)
            have hne : ((nd.T.length : Int) == 32) = true := by rw [beq_iff_eq]; omega
            have hx4 := hq4.node
            have xn := cell_in hx4 (i := 0) rfl
            obtain ⟨X1, f, hX1, hf, hF⟩ := classOf (fun y => y.cell? ⟨nd.x, 0, none⟩ = some (pv nd.p)) (w := w3.drew) (cell_in (show w3.drew.heap[nd.x]? = _ from hx4) (i := 0) rfl)
            have H0 := Lib.hid (hF w3.drew (cell_in (show w3.drew.heap[nd.x]? = _ from hx4) (i := 0) rfl))
            have HFc := Lib.hid hF
            have HN := Lib.hid (packNew w3.drew)
            have HQ4 := Lib.hid (show QRow w3.drew q (A ++ nd :: B) (n : Nat) from hq4.below (belowN (Below.refl _ _) 1))
            have HB4 := Lib.hid (show Below w0.heap.size w0 w3.drew from belowN HB.out 1)
            have HC4 := Lib.hid (show Chg (foot q (u :: Ns)) w w3.drew from (Chg.of_below (foot q (u :: Ns)) HB3.out).trans (Chg.drew (foot q (u :: Ns)) w3) fun k hk _ => hk)
            obtain ⟨nT, hnT⟩ : ∃ nT, nd.T.length = nT := ⟨_, rfl⟩
            rw [hnT] at HL4 hne
            have H32 := Lib.hid h32
            clear hq4 hp4 hx4 hnT hF h32 hlt hle32 HQ HB HB3
            go_wp2_with fail
            refine HL4.out.mono ?_
            rintro e w' ⟨rfl, rfl⟩
            go_wp2_with fail
            refine wp_region_text ⟨[6, 7, 10, 11], [8, 9], 11⟩ (fun w' => ∃ x : X1, w' = f x) (by kernel_rfl) (by kernel_rfl) H0.out ?_
            refine wpC_seg false (H0.out) 6 0 _ _ (by rfl) (by rfl) ?_
            simp only [List.take_succ_cons, List.take_zero, List.drop_succ_cons, List.drop_zero, Bool.false_eq_true, if_false, Nat.zero_add, Nat.reduceAdd]
            repeat (go_big_quiet_step (fail))
            refine wpQuiet_nil ?_
            refine wpC_loud (by rfl) (by rfl) fun K hK => ?_
            go_wp2_with fail
            refine HN.out.mono ?_
            rintro e w5 ⟨p, rfl, ⟨F1, p1, k1⟩, hpn, ch5⟩
            have hq5 := HQ4.out.chg ch5 fun _ _ => id
            have H5 := Lib.hid (HFc.out w5 (cell_in hq5.node (i := 0) rfl))
            have hd5 : ∀ v ∈ A ++ nd :: B, ∀ k, v.F k → ¬ F1 k := fun v hv k hk hF => by
              have := (HQ4.out.packs v hv).lt hk
              have := k1 k hF
              omega
            have HLk := Lib.hid (link_mid hq5 p1 hd5)
            have HC5 := Lib.hid (And.intro ch5 (And.intro k1 hq5))
            refine hK _ _ (fun _ => H5.out) ?_
            clear hK p1 k1 ch5 hq5 hd5 hpn HN
            refine wpC_loud (by rfl) (by rfl) fun K hK => ?_
            go_wp2_with fail
            refine HLk.out.mono ?_
            rintro e w6 ⟨rfl, hq6, ch6⟩
            have hq6' : QRow w6 q ((A ++ [nd]) ++ ⟨w5.heap.size, p, F1, []⟩ :: B) (n : Nat) := by simpa using hq6
            have hy6 := hq6'.node
            have H6 := Lib.hid (HFc.out w6 (cell_in hq6.node (i := 0) rfl))
            have hsz5 : w.heap.size ≤ w5.heap.size := Nat.le_trans HC4.out.size HC5.out.1.size
            have hfn6 : ∀ k, (k = q ∨ ∃ v ∈ nd :: B, k = v.x) → foot q (u :: Ns) k := fun k hk => by
              rcases hk with hk | ⟨v, hv, hk⟩
              · exact .inl hk
              · exact .inr ⟨v, by rw [HAt.out.eq]; simp only [List.mem_append, List.mem_cons] at hv ⊢; exact .inr hv, .inl hk⟩
            have hc6 : Chg (foot q (u :: Ns)) w w6 := (HC4.out.trans HC5.out.1 fun k hk _ => hk.elim).trans ch6 fun k hk _ => hfn6 k hk
            have hb6 : Below w0.heap.size w0 w6 := belowChg H.out.2.1 hc6 H.out.2.2.1 fun k hk _ => H.out.2.2.2.1 k hk
            have hT4 := (HQ4.out.packs nd (by simp)).ok.each
            have HPr := Lib.hid (pour_any H.out.1 hb6 (Nat.le_trans H.out.2.2.1 hc6.size) (hq6.packs nd (by simp)) (hq6'.packs ⟨w5.heap.size, p, F1, []⟩ (by simp)) (by
                have ha := apart_mid.1 hq6'.apart
                exact ha.2.2.1 nd (by simp)) (fun k hk => H.out.2.2.2.1 k (.inr ⟨nd, by rw [HAt.out.eq]; simp, .inr hk⟩)) (fun k hk => Nat.le_trans H.out.2.2.1 (Nat.le_trans HC4.out.size (HC5.out.2.1 k hk))) 16 (by have := H32.out; omega)
                (by rw [List.nil_append]; exact okl_few (fun x hx => hT4 x (List.mem_of_mem_drop hx)) (by have := H32.out; rw [List.length_drop]; omega)))
            rw [List.nil_append] at HPr
            have HQ6 := Lib.hid (And.intro hq6 (And.intro hc6 hb6))
            refine hK _ _ (fun _ => H6.out) ?_
            have hyc : w6.cell? ⟨w5.heap.size, 0, none⟩ = some (pv p) := cell_in hy6 (i := 0) rfl
            clear hK hq6 ch6 hq6' hy6 hsz5 hc6 hb6 hT4 HLk
            refine wpC_seg true (H6.out) 2 8 _ _ (by rfl) (by rfl) ?_
            simp only [List.take_succ_cons, List.take_zero, List.drop_succ_cons, List.drop_zero, if_true, Nat.zero_add, Nat.reduceAdd]
            repeat (go_big_quiet_step (fail))
            refine wpQuiet_nil ?_
            refine wpC_loud (by rfl) (by rfl) fun K hK => ?_
            go_wp2_with fail
            refine hK _ _ (fun _ => H6.out) ?_
            clear hK
            refine wpC_loud (by rfl) (by rfl) fun K hK => ?_
            go_wp2_with fail
            refine HPr.out.mono ?_
            rintro e w7 ⟨⟨v7, rfl⟩, ⟨Fu, Fv, pu, pvv, fu, fv, hd7⟩, ch7⟩
            have hq7 : QRow w7 q (A ++ ⟨nd.x, nd.p, Fu, nd.T.take 16⟩ :: ⟨w5.heap.size, p, Fv, nd.T.drop 16⟩ :: B) (n : Nat) := HQ6.out.1.setPack2 ch7 pu pvv fu fv hd7
            have hc7 : Chg (foot q (u :: Ns)) w w7 := HQ6.out.2.1.trans ch7 fun k hk hlt => by
              rcases hk with hk | hk
              · exact .inr ⟨nd, by rw [HAt.out.eq]; simp, .inr hk⟩
              · have := HC5.out.2.1 k hk; have := HC4.out.size; omega
            have hf7 : ∀ k, foot q (A ++ ⟨nd.x, nd.p, Fu, nd.T.take 16⟩ :: ⟨w5.heap.size, p, Fv, nd.T.drop 16⟩ :: B) k → foot q (u :: Ns) k ∨ w.heap.size ≤ k := fun k hk => by
              have h46 := HQ6.out.2.1.size
              rcases hk with hk | ⟨v, hv, hk⟩
              · exact .inl (.inl hk)
              · simp only [List.mem_append, List.mem_cons] at hv
                rcases hv with hv | rfl | rfl | hv
                · exact .inl (.inr ⟨v, by rw [HAt.out.eq]; simp [hv], hk⟩)
                · rcases hk with hk | hk
                  · exact .inl (.inr ⟨nd, by rw [HAt.out.eq]; simp, .inl hk⟩)
                  · rcases fu k hk with h8 | h8
                    · exact .inl (.inr ⟨nd, by rw [HAt.out.eq]; simp, .inr h8⟩)
                    · exact .inr (by omega)
                · rcases hk with hk | hk
                  · exact .inr (by have := HC4.out.size; have := HC5.out.1.size; simp only at hk; omega)
                  · rcases fv k hk with h8 | h8
                    · have := HC5.out.2.1 k h8; have := HC4.out.size; exact .inr (by omega)
                    · exact .inr (by omega)
                · exact .inl (.inr ⟨v, by rw [HAt.out.eq]; simp [hv], hk⟩)
            have HQ7 := Lib.hid (And.intro hq7 (And.intro hc7 hf7))
            refine hK _ _ (fun h => absurd h (by decide)) ?_
            clear hK pu pvv fu fv hd7 ch7 hq7 hc7 hf7 HPr hyc
            refine wpC_nil ?_
            clear hf hX1 H0 H5 H6 HFc f X1
            have hspf : flatN (A ++ ⟨nd.x, nd.p, Fu, nd.T.take 16⟩ :: ⟨w5.heap.size, p, Fv, nd.T.drop 16⟩ :: B) = flatN (u :: Ns) := split_flat HAt.out rfl rfl
            have HFd2 := Lib.hid (find_any HQ7.out.1 m (by rw [hspf, HQ0.out.2.2.2]; exact hmn) (by omega))
            have HSp := Lib.hid hspf
            clear hspf
            go_wp2_with fail
            refine HFd2.out.mono ?_
            rintro e w8 ⟨⟨hnil, _⟩ | ⟨A8, nd8, B8, pl8, hat8, rfl⟩, b8⟩
            · exact absurd hnil (by simp)
            · have hgood : Good A ∧ Good B := HG.out
              have hg8 : Good (A ++ ⟨nd.x, nd.p, Fu, nd.T.take 16⟩ :: ⟨w5.heap.size, p, Fv, nd.T.drop 16⟩ :: B) := fun v hv => by
                have h32 := H32.out
                simp only [List.mem_append, List.mem_cons] at hv
                rcases hv with hv | rfl | rfl | hv
                · exact hgood.1 v hv
                · exact ⟨fun e => by
                    change nd.T.take 16 = [] at e
                    have h9 := congrArg List.length e
                    rw [List.length_take, h32] at h9
                    exact absurd h9 (by decide), by rw [List.length_take]; omega⟩
                · exact ⟨fun e => by
                    change nd.T.drop 16 = [] at e
                    have h9 := congrArg List.length e
                    rw [List.length_drop, h32] at h9
                    exact absurd h9 (by decide), by rw [List.length_drop]; omega⟩
                · exact hgood.2 v hv
              have hsmall : nd8.T.length < 32 ∧ lensN A8 ++ (nd8.T.length + 1) :: lensN B8 = insL ls m := by
                have h32 := H32.out
                have hl := HAt.out.lens HQ0.out.2.1
                rw [if_pos h32, hls] at hl
                rcases split_at (u := ⟨nd.x, nd.p, Fu, nd.T.take 16⟩) (v := ⟨w5.heap.size, p, Fv, nd.T.drop 16⟩) HAt.out rfl rfl h32 with ⟨hp9, h9⟩ | ⟨hp9, h9⟩
                · obtain ⟨e1, e, e2, _⟩ := hat8.unique hg8 h9
                  rw [if_pos hp9] at hl
                  have hT : nd8.T.length = 16 := by rw [e, List.length_take]; omega
                  refine ⟨by omega, ?_⟩
                  rw [hl, hT, e1, e2]
                  have : (nd.T.drop 16).length = 16 := by rw [List.length_drop]; omega
                  simp [lensN, this]
                · obtain ⟨e1, e, e2, _⟩ := hat8.unique hg8 h9
                  rw [if_neg (by omega)] at hl
                  have hT : nd8.T.length = 16 := by rw [e, List.length_drop]; omega
                  refine ⟨by omega, ?_⟩
                  rw [hl, hT, e1, e2]
                  have : (nd.T.take 16).length = 16 := by rw [List.length_take]; omega
                  simp [lensN, this]
              have HLs := Lib.hid hsmall.2
              have hsmall := hsmall.1
              have HQ := Lib.hid (HQ7.out.1.below b8)
              have HB := Lib.hid (show Below w0.heap.size w0 w8 from belowChg H.out.2.1 (HQ7.out.2.1.trans (Chg.of_below (foot q (u :: Ns)) b8) fun k hk _ => hk) H.out.2.2.1 fun k hk _ => H.out.2.2.2.1 k hk)
              have HG8 := Lib.hid (show Good A8 ∧ Good B8 by
                rw [hat8.eq] at hg8
                exact ⟨fun x hx => hg8 x (by simp [hx]), fun x hx => hg8 x (by simp [hx])⟩)
              have HNn := Lib.hid (show n = (flatN (A ++ ⟨nd.x, nd.p, Fu, nd.T.take 16⟩ :: ⟨w5.heap.size, p, Fv, nd.T.drop 16⟩ :: B)).length by rw [HSp.out]; exact HQ0.out.2.2.2.symm)
              have HFr := Lib.hid (And.intro (show flatN (A ++ ⟨nd.x, nd.p, Fu, nd.T.take 16⟩ :: ⟨w5.heap.size, p, Fv, nd.T.drop 16⟩ :: B) = L by rw [HSp.out]; exact HQ0.out.2.2.1) (And.intro HQ7.out.2.2 (HQ7.out.2.1.trans (Chg.of_below (foot q (u :: Ns)) b8) fun k hk _ => hk)))
              have HAt8 := Lib.hid hat8
              clear hgood hg8 hat8 b8 HG HAt
              generalize (A ++ ⟨nd.x, nd.p, Fu, nd.T.take 16⟩ :: ⟨w5.heap.size, p, Fv, nd.T.drop 16⟩ :: B) = Ns8 at *
              have hq4 := HQ.out
              rw [HAt8.out.eq] at hq4
              have xn := cell_in hq4.node (i := 0) rfl
              have hp4 := hq4.packs nd8 (by simp)
              have hle := HAt8.out.le
              have hpb : pl8 ≤ 32 := by omega
              have HL4 := Lib.hid (packLen hp4)
              have hne : ((nd8.T.length : Int) == 32) = false := by rw [beq_eq_false_iff_ne]; omega
              have HI4 := Lib.hid (packInsert hp4 (H.out.1.below HB.out) (pl8 : Int) (by omega) s (by have := H.out.2.2.2.2.2; omega))
              rw [insP_few hp4.ok.each (by omega) hle H.out.2.2.2.2.2] at HI4
              have HFin := Lib.hid (fun w5 F5 (h5 : PackF w5 nd8.p F5 (nd8.T.take pl8 ++ [s] ++ nd8.T.drop pl8)) (h6 : Fresh w8 nd8.F F5) (h7 : Chg nd8.F w8 w5) => ins_last HQ.out HAt8.out HG8.out hsmall HNn.out H.out.2.2.2.2.2 h5 h6 h7)
              obtain ⟨nT, hnT⟩ : ∃ nT, nd8.T.length = nT := ⟨_, rfl⟩
              rw [hnT] at HL4 hne hsmall hle
              clear hq4 hp4 hnT
              go_wp2_with fail
              refine HI4.out.mono ?_
              rintro e w5 ⟨rfl, ⟨F5, h5, h6⟩, h7⟩
              have HE := Lib.hid (HFin.out w5 F5 h5 h6 h7)
              have y0 := HE.out.2.2.1
              have y1 := HE.out.2.2.2
              clear h5 h6 h7
              go_wp2_with fail
              go_ret
              exact ⟨rfl, HRes.out _ w8 _ HFr.out (HLs.out ▸ HE.out.1) HE.out.2.1⟩
theorem quickInsert {w0 w : World} (hl : Laid w0) (hb0 : Below w0.heap.size w0 w) (hN : w0.heap.size ≤ w.heap.size) {q : Nat} {F : Nat → Prop} {L : List ByteArray} (h : QuickF w q F L) (kF : ∀ k, F k → w0.heap.size ≤ k) (a : Int) (ha : -9223372036854775808 ≤ a ∧ a ≤ 9223372036854775807) (s : ByteArray) (hs : s.size ≤ 9000000000000000000) :
    Calls Tryd.prog 22 #[pv q, .int .i64 a, .string s] w fun e w' => e = .returned (.int .i64 (insQ L a s).1) ∧ (∃ F', QuickF w' q F' (insQ L a s).2 ∧ Fresh w F F') ∧ Chg F w w' := by
  obtain ⟨ls, h⟩ := h.toL
  exact (quickInsertL hl hb0 hN h kF a ha s hs).mono fun e w' ⟨h1, ⟨F', h2, h3⟩, h4⟩ => ⟨h1, ⟨F', h2.toF, h3⟩, h4⟩
end Go.Proofs.YtfbhddllimfdlaaDoor

/- The law PackUndoes: the walk. -/
-- SOFT
namespace Go.Proofs.YtfbhddllimfdlaaDoor
set_option linter.unusedVariables false
set_option linter.unusedSimpArgs false
open Go.RowKit
theorem insP_ok {L : List ByteArray} (h : OKL L) (ht : totalT L ≤ 1048576) (hm : L.length ≤ 1001) {k : Nat} (hk : k ≤ L.length) {s : ByteArray} (hs : s.size ≤ 65536) : insP L k s = (0, L.take k ++ [s] ++ L.drop k) := by
  have h1 := body_le L h.each
  have h2 := entL_length s (by omega)
  unfold insP
  rw [if_neg (by omega), if_neg (by omega), if_neg (by unfold sizeP; omega), Int.toNat_natCast]
theorem insP_no {L : List ByteArray} {k : Nat} (hk : k ≤ L.length) {s : ByteArray} (hs : 65536 < s.size) : insP L k s = (3, L) := by
  unfold insP
  rw [if_neg (by omega), if_pos (.inl hs)]
theorem ins_get {L : List ByteArray} {k : Nat} (hk : k ≤ L.length) (s : ByteArray) : getV (L.take k ++ [s] ++ L.drop k) k = .tuple #[.string s, .bool true] := by
  have hl : (L.take k ++ [s] ++ L.drop k).length = L.length + 1 := by simp; omega
  have hb : placeB (L.take k ++ [s] ++ L.drop k).length k = true := by
    unfold placeB placeN
    rw [hl, if_neg (by omega)]
    simp; omega
  have hp : placeN (L.take k ++ [s] ++ L.drop k).length k = k := by unfold placeN; rw [if_neg (by omega)]
  unfold getV
  rw [hb, hp, Int.toNat_natCast]
  have : (L.take k ++ [s] ++ L.drop k).getD k ByteArray.empty = s := by
    have hk' : (L.take k).length = k := by rw [List.length_take]; omega
    rw [List.append_assoc]
    simp only [List.getD]
    rw [List.getElem?_append_right (by omega), hk', Nat.sub_self]
    rfl
  rw [this]; rfl
theorem ins_del {L : List ByteArray} {k : Nat} (hk : k ≤ L.length) (s : ByteArray) : delP (L.take k ++ [s] ++ L.drop k) k 1 = (0, L) := by
  have hl : (L.take k ++ [s] ++ L.drop k).length = L.length + 1 := by simp; omega
  have hk' : (L.take k).length = k := by rw [List.length_take]; omega
  unfold delP
  rw [hl, if_neg (by omega), Int.toNat_natCast, show ((1 : Int).toNat) = 1 from rfl]
  congr 1
  rw [List.append_assoc, List.take_left' hk', show k + 1 = (L.take k ++ [s]).length by simp [hk'], ← List.append_assoc, List.drop_left, List.take_append_drop]
theorem setP_ok {L : List ByteArray} (hz : sizeP L ≤ 100000000) {k : Nat} (hk : k < L.length) {s : ByteArray} (hs : s.size ≤ 65536) : setP L k s = (0, L.take k ++ [s] ++ L.drop (k + 1)) := by
  have hp : placeN L.length k = k := by unfold placeN; rw [if_neg (by omega)]
  have hb : placeB L.length k = true := by unfold placeB; rw [hp]; simp; omega
  have h2 := entL_length s (by omega)
  unfold setP
  rw [hb, hp, Int.toNat_natCast, if_neg (by simp), if_neg (by omega), if_neg (by omega)]
theorem set_back {L : List ByteArray} {k : Nat} (hk : k < L.length) (s : ByteArray) : (L.take k ++ [s] ++ L.drop (k + 1)).take k ++ [L[k]] ++ (L.take k ++ [s] ++ L.drop (k + 1)).drop (k + 1) = L := by
  have hk' : (L.take k).length = k := by rw [List.length_take]; omega
  rw [List.append_assoc (L.take k), List.take_left' hk', show k + 1 = (L.take k ++ [s]).length by simp [hk'], ← List.append_assoc, List.drop_left, List.length_append, hk', List.length_singleton]
  rw [← take_succ_get hk, List.take_append_drop]
end Go.Proofs.YtfbhddllimfdlaaDoor

/- quick: Set. -/
namespace Go.Proofs.YtfbhddllimfdlaaDoor
set_option linter.unusedVariables false
set_option linter.unusedSimpArgs false
open Go.RowKit
def setQ (L : List ByteArray) (a : Int) (s : ByteArray) : Int × List ByteArray :=
  if qplB L.length a = false then (6, L) else if 65536 < s.size then (3, L) else (0, L.take (qplN L.length a).toNat ++ [s] ++ L.drop ((qplN L.length a).toNat + 1))
theorem setP_many {T : List ByteArray} {k : Nat} (hk : k < T.length) {s : ByteArray} (hs : 65536 < s.size) : setP T (k : Int) s = (3, T) := by
  have hp : placeN T.length k = k := by unfold placeN; rw [if_neg (by omega)]
  have hb : placeB T.length k = true := by unfold placeB; rw [hp]; simp; omega
  unfold setP
  rw [hb, if_neg (by simp), if_pos hs]
/-- What Set makes. -/
theorem At.set {Ns A B : List Nd} {nd : Nd} {m pl : Nat} (h : At Ns (m + 1) A nd B pl) (F' : Nat → Prop) (s : ByteArray) : flatN (A ++ ⟨nd.x, nd.p, F', nd.T.take (pl - 1) ++ [s] ++ nd.T.drop pl⟩ :: B) = (flatN Ns).take m ++ [s] ++ (flatN Ns).drop (m + 1) := by
  have hp := h.pos (by omega)
  have h1 := h.sum
  have h2 := h.le
  have e1 : (flatN Ns).take m = flatN A ++ nd.T.take (pl - 1) := by
    rw [h.flat, show m = (flatN A).length + (pl - 1) by omega, List.append_assoc, List.take_length_add_append, List.take_append_of_le_length (by omega)]
  rw [e1, h.drop, flat_append, flat_cons]
  simp [List.append_assoc]
set_option maxHeartbeats 3200000 in
set_option maxRecDepth 100000 in
theorem quickSet {w0 w : World} (hl : Laid w0) (hb0 : Below w0.heap.size w0 w) (hN : w0.heap.size ≤ w.heap.size) {q : Nat} {F : Nat → Prop} {L : List ByteArray} (h : QuickF w q F L) (kF : ∀ k, F k → w0.heap.size ≤ k) (hn : L.length ≤ 1000000000) (a : Int) (ha : -9223372036854775808 ≤ a ∧ a ≤ 9223372036854775807) (s : ByteArray) (hs : s.size ≤ 9000000000000000000) :
    Calls Tryd.prog 66 #[pv q, .int .i64 a, .string s] w fun e w' => e = .returned (.int .i64 (setQ L a s).1) ∧ (∃ F', QuickF w' q F' (setQ L a s).2 ∧ Fresh w F F') ∧ Chg F w w' := by
  have hF0 := h
  obtain ⟨Ns, h1, h2, h3, h4⟩ := h
  have q0 : w.cell? ⟨q, 0, none⟩ = some (.bool true) := cell_in h1.head (i := 0) rfl
  have HP := Lib.hid (qplace_any h1 hn a ha)
  cases hb : qplB L.length a with
  | false =>
    have hv : setQ L a s = (6, L) := by unfold setQ; rw [if_pos hb]
    rw [hv]
    rw [hb] at HP
    have HS := Lib.hid (show (∃ F', QuickF w q F' L ∧ Fresh w F F') ∧ Chg F w w from ⟨⟨F, hF0, fun k hk => .inl hk⟩, Chg.refl _ _⟩)
    clear hF0 h1 h2 h3 h4 hl hb0 kF hv hb
    generalize qplN L.length a = k at *
    go_enter Tryd.func66, Tryd.ntmps66
    go_wp2_with fail
    refine HP.out.mono ?_
    rintro e w' ⟨rfl, rfl⟩
    go_wp2_with fail
    go_ret
    exact ⟨rfl, HS.out⟩
  | true =>
    have hk : 0 ≤ qplN L.length a ∧ qplN L.length a < L.length := by
      unfold qplB at hb
      simpa using hb
    obtain ⟨k, hkn⟩ : ∃ k : Nat, qplN L.length a = (k : Int) := ⟨(qplN L.length a).toNat, by omega⟩
    rw [hkn] at hk
    have hv : setQ L a s = if 65536 < s.size then (3, L) else (0, L.take k ++ [s] ++ L.drop (k + 1)) := by unfold setQ; rw [if_neg (by rw [hb]; simp), hkn]; rfl
    rw [hb, hkn] at HP
    have hfn : (flatN Ns).length = L.length := by rw [h3]
    have HFd := Lib.hid (find_any h1 (k + 1) (by omega) (by omega))
    rw [show ((k + 1 : Nat) : Int) = (k : Int) + 1 by omega] at HFd
    have HH := Lib.hid (And.intro h1 (And.intro h2 (And.intro h3 (And.intro h4 (And.intro hl (And.intro hb0 (And.intro hN hfn)))))))
    have hkb : k < 1000000000 := by omega
    have hkL : k < L.length := by omega
    obtain ⟨R, hR⟩ : ∃ R, setQ L a s = R := ⟨_, rfl⟩
    rw [hR] at hv ⊢
    have HV := Lib.hid hv
    have HF0 := Lib.hid hF0
    clear h1 h2 h3 h4 hl hb0 hN hb hkn hk hfn hv hR hF0 kF
    go_enter Tryd.func66, Tryd.ntmps66
    go_wp2_with fail
    refine HP.out.mono ?_
    rintro e w' ⟨rfl, rfl⟩
    go_wp2_with fail
    refine HFd.out.mono ?_
    rintro e w1 ⟨⟨hnil, _⟩ | ⟨A, nd, B, pl, hat, rfl⟩, b1⟩
    · exfalso
      have := HH.out.2.2.2.2.2.2.2
      rw [hnil] at this
      simp at this
      omega
    · have hq := HH.out.1
      rw [hat.eq] at hq
      have hq1 := hq.below b1
      have xn := cell_in hq1.node (i := 0) rfl
      have hpl := hat.pos (by omega)
      have hle := hat.le
      have hpn := hq1.packs nd (by simp)
      have hb01 : Below w0.heap.size w0 w1 := HH.out.2.2.2.2.2.1.trans (b1.mono HH.out.2.2.2.2.2.2.1)
      have h32 : nd.T.length ≤ 32 := (HH.out.2.1 nd (by rw [hat.eq]; simp)).2
      have HS1 := Lib.hid (packSet hpn (HH.out.2.2.2.2.1.below hb01) ((pl - 1 : Nat) : Int) (by omega) s hs)
      have HB1 := Lib.hid b1
      have hpb : pl ≤ 32 := by omega
      by_cases hbig : 65536 < s.size
      · rw [setP_many (by omega) hbig, show ((pl - 1 : Nat) : Int) = (pl : Int) - 1 by omega] at HS1
        have hRv : R = (3, L) := by rw [HV.out, if_pos hbig]
        subst hRv
        have HQ1 := Lib.hid (And.intro hq1 hat)
        clear hq hq1 hat b1 hle hpn hb01 h32
        go_wp2_with fail
        refine HS1.out.mono ?_
        rintro e w2 ⟨rfl, ⟨F2, p2, f2⟩, c2⟩
        have HE := Lib.hid (HQ1.out.1.setPack c2 p2 f2)
        have HC := Lib.hid (And.intro c2 f2)
        clear p2 f2 c2
        go_wp2_with fail
        go_ret
        have hsz := HB1.out.size
        have hFn : ∀ k, nd.F k → F k := fun k hk => (HH.out.2.2.2.1 k).2 (.inr ⟨nd, by rw [HQ1.out.2.eq]; simp, .inr hk⟩)
        refine ⟨rfl, ⟨foot q (A ++ ⟨nd.x, nd.p, F2, nd.T⟩ :: B), ⟨_, HE.out, fun x hx => ?_, ?_, fun k => Iff.rfl⟩, fun k hk => ?_⟩, ((Chg.of_below F HB1.out).trans HC.out.1 fun k hk _ => hFn k hk)⟩
        · have hg := HH.out.2.1
          rw [HQ1.out.2.eq] at hg
          simp only [List.mem_append, List.mem_cons] at hx
          rcases hx with hx | rfl | hx
          · exact hg x (by simp [hx])
          · exact hg nd (by simp)
          · exact hg x (by simp [hx])
        · rw [← HH.out.2.2.1, HQ1.out.2.flat, flat_append, flat_cons, List.append_assoc]
        · rcases hk with rfl | ⟨x, hx, hk⟩
          · exact .inl ((HH.out.2.2.2.1 _).2 (.inl rfl))
          · simp only [List.mem_append, List.mem_cons] at hx
            rcases hx with hx | rfl | hx
            · exact .inl ((HH.out.2.2.2.1 _).2 (.inr ⟨x, by rw [HQ1.out.2.eq]; simp [hx], hk⟩))
            · rcases hk with rfl | hk
              · exact .inl ((HH.out.2.2.2.1 _).2 (.inr ⟨nd, by rw [HQ1.out.2.eq]; simp, .inl rfl⟩))
              · rcases HC.out.2 k hk with h8 | h8
                · exact .inl (hFn k h8)
                · exact .inr (Nat.le_trans hsz h8)
            · exact .inl ((HH.out.2.2.2.1 _).2 (.inr ⟨x, by rw [HQ1.out.2.eq]; simp [hx], hk⟩))
      · rw [setP_ok (few_size hpn.ok.each (by omega)) (by omega) (by omega), show ((pl - 1 : Nat) : Int) = (pl : Int) - 1 by omega, show pl - 1 + 1 = pl by omega] at HS1
        have hRv : R = (0, L.take k ++ [s] ++ L.drop (k + 1)) := by rw [HV.out, if_neg hbig]
        subst hRv
        have HQ1 := Lib.hid (And.intro hq1 hat)
        clear hq hq1 hat b1 hle hpn hb01
        go_wp2_with fail
        refine HS1.out.mono ?_
        rintro e w2 ⟨rfl, ⟨F2, p2, f2⟩, c2⟩
        have HE := Lib.hid (HQ1.out.1.setPack c2 p2 f2)
        have HC := Lib.hid (And.intro c2 f2)
        clear p2 f2 c2
        go_wp2_with fail
        go_ret
        have hsz := HB1.out.size
        have hFn : ∀ k, nd.F k → F k := fun k hk => (HH.out.2.2.2.1 k).2 (.inr ⟨nd, by rw [HQ1.out.2.eq]; simp, .inr hk⟩)
        refine ⟨rfl, ⟨foot q (A ++ ⟨nd.x, nd.p, F2, nd.T.take (pl - 1) ++ [s] ++ nd.T.drop pl⟩ :: B), ⟨_, ?_, fun x hx => ?_, ?_, fun k => Iff.rfl⟩, fun k hk => ?_⟩, ((Chg.of_below F HB1.out).trans HC.out.1 fun k hk _ => hFn k hk)⟩
        · have : ((L.take k ++ s :: L.drop (k + 1)).length : Nat) = L.length := by simp only [List.length_append, List.length_take, List.length_drop, List.length_cons]; omega
          rw [this]
          exact HE.out
        · have hg := HH.out.2.1
          have hle := HQ1.out.2.le
          rw [HQ1.out.2.eq] at hg
          simp only [List.mem_append, List.mem_cons] at hx
          rcases hx with hx | rfl | hx
          · exact hg x (by simp [hx])
          · refine ⟨by simp, ?_⟩
            simp only [List.length_append, List.length_take, List.length_drop, List.length_singleton]; omega
          · exact hg x (by simp [hx])
        · rw [HQ1.out.2.set, HH.out.2.2.1]; simp
        · rcases hk with rfl | ⟨x, hx, hk⟩
          · exact .inl ((HH.out.2.2.2.1 _).2 (.inl rfl))
          · simp only [List.mem_append, List.mem_cons] at hx
            rcases hx with hx | rfl | hx
            · exact .inl ((HH.out.2.2.2.1 _).2 (.inr ⟨x, by rw [HQ1.out.2.eq]; simp [hx], hk⟩))
            · rcases hk with rfl | hk
              · exact .inl ((HH.out.2.2.2.1 _).2 (.inr ⟨nd, by rw [HQ1.out.2.eq]; simp, .inl rfl⟩))
              · rcases HC.out.2 k hk with h8 | h8
                · exact .inl (hFn k h8)
                · exact .inr (Nat.le_trans hsz h8)
            · exact .inl ((HH.out.2.2.2.1 _).2 (.inr ⟨x, by rw [HQ1.out.2.eq]; simp [hx], hk⟩))
end Go.Proofs.YtfbhddllimfdlaaDoor

/- quick: Packs; one element more behind a slice that lies in a cell. -/
namespace Go.Proofs.YtfbhddllimfdlaaDoor
set_option linter.unusedVariables false
set_option linter.unusedSimpArgs false
open Go.RowKit
theorem SliceIs.vb {w : World} {B n : Nat} {e : TypeId} {v : Value} {xs : List Value} (h : SliceIs w B e v n xs) {k : Nat} (hk : vblock v = some k) : B ≤ k ∧ k < w.heap.size ∧ ∃ cur fz, w.heap[k]? = some (.cells cur e fz) := by
  rcases h.2 with ⟨rfl, _⟩ | ⟨g, cap, cur, rfl, h2, ⟨fz, _, hh⟩, _⟩
  · cases hk
  · cases hk; exact ⟨h2, heap_lt hh, cur, fz, hh⟩
theorem SliceIs.ofZero {w : World} {B n : Nat} {e : TypeId} {v : Value} {xs : List Value} (h : SliceIs w 0 e v n xs) (hb : ∀ g, vblock v = some g → B ≤ g) : SliceIs w B e v n xs := by
  refine ⟨h.1, h.2.imp id ?_⟩
  rintro ⟨g, cap, cur, rfl, _, h3⟩
  exact ⟨g, cap, cur, rfl, hb g rfl, h3⟩
theorem SliceIs.ownQ {W W' : World} {row : Option Nat} (hg : W.grownBy W' row) (hr : ∀ r, row = some r → ∃ o : Obj, W.heap[r]? = some o ∧ o.isCells = false) {B n : Nat} {e : TypeId} {v : Value} {xs : List Value} (h : SliceIs W B e v n xs) : SliceIs W' B e v n xs := by
  refine ⟨h.1, h.2.imp id ?_⟩
  rintro ⟨g, cap, cur, rfl, h2, ⟨fz, h3, h4⟩, h5⟩
  exact ⟨g, cap, cur, rfl, h2, ⟨fz, h3, grown_keepP hg hr h4⟩, h5⟩
theorem app_cell {P : Program} {w : World} {n0 c : Nat} {e ts : TypeId} {v : Value} {n : Nat} {xs : List Value} {t ty : TypeId} {i : TypeInfo} {z : Value} {bytes : Nat} (ht : P.underlying t = some (.slice e)) (hi : P.info? e = some i) (hz : i.zero = some z)
    (hsize : i.size = 1) (hby : i.bytes = bytes) (hzs : z.cells.size = 1) (hne : ts ≠ e) (hc : w.heap[c]? = some (.cells #[v] ts (0, 0))) (h : SliceIs w n0 e v n xs) (hn0 : n0 ≤ w.heap.size) (u : Value) (hu : u.oneCell' = true) (h63 : n + 1 ≤ maxLen) (hbytes : (n + 1) * bytes ≤ 140737488355328) :
    ∃ a' c' W2 W3, (Builtin.append_ #[t, t] ty #[v, .slice (some ⟨w.heap.size, 0, none⟩) 1 1]).run P (w.alloc (.cells #[u] e)) = .ok (.slice a' (n + 1) c') W2 ∧ W3 = W2.setCell ⟨c, 0, none⟩ (.slice a' (n + 1) c') ∧
      W2.heap[c]? = some (.cells #[v] ts (0, 0)) ∧ W3.heap[c]? = some (.cells #[.slice a' (n + 1) c'] ts (0, 0)) ∧ SliceIs W3 n0 e (.slice a' (n + 1) c') (n + 1) (xs ++ [u]) ∧ Chg (fun k => vblock v = some k ∨ k = c) w W3 ∧ (vblock (.slice a' (n + 1) c') = vblock v ∨ ∃ k, vblock (.slice a' (n + 1) c') = some k ∧ w.heap.size ≤ k) := by
  obtain ⟨v', W2, hr, s2, c2, hv2⟩ := run_append_own1 (P := P) (ty := ty) ht hi hz hsize hby hzs (h.mono (Nat.zero_le _)) u hu h63 hbytes
  obtain ⟨a', c', rfl, _⟩ := s2.arg
  have hvc : vblock v ≠ some c := fun e2 => by
    obtain ⟨_, _, cur, fz, hh⟩ := h.vb e2
    rw [hc] at hh
    injection hh with hh
    injection hh with _ hh _
    exact hne hh
  have h2 := c2.keep hc hvc
  have hc3 : Chg (fun k => k = c) W2 (W2.setCell ⟨c, 0, none⟩ (.slice a' (n + 1) c')) := Chg.setCell _ _ _ _ rfl
  refine ⟨a', c', W2, _, hr, rfl, h2, setCell_head h2 0 _, SliceIs.ofZero (s2.chg hc3 fun k hk e2 => ?_) fun g hg => ?_, (c2.mono fun k hk _ => .inl hk).trans hc3 fun k hk _ => .inr hk, hv2⟩
  · subst e2
    rcases hv2 with h3 | ⟨k2, h3, h4⟩
    · exact hvc (h3.symm.trans hk)
    · rw [h3] at hk
      cases hk
      have := heap_lt hc
      omega
  · rcases hv2 with h3 | ⟨k2, h3, h4⟩
    · exact (h.vb (h3.symm.trans hg)).1
    · rw [h3] at hg
      cases hg
      omega
theorem info_int : (Tryd.prog.info? 3).map (fun i => (i.zero, i.size, i.bytes)) = some (some (.int .i64 0), 1, 8) := by kernel_rfl
set_option maxHeartbeats 3200000 in
set_option maxRecDepth 100000 in
theorem packs1_any {w : World} {x p : Nat} {F : Nat → Prop} {T : List ByteArray} {a b : Option Nat} (hn : w.heap[x]? = some (nodeO p a b)) (hp : PackF w p F T) {c n0 n : Nat} {v : Value} {xs : List Value}
    (hc : w.heap[c]? = some (.cells #[v] 50 (0, 0))) (hs : SliceIs w n0 3 v n xs) (hn0 : n0 ≤ w.heap.size) (hnb : n < 1000000000) :
    Calls Tryd.prog 76 #[pv x, pv c] w fun e w' => e = .returned (.bool true) ∧ (∃ v', w'.heap[c]? = some (.cells #[v'] 50 (0, 0)) ∧ SliceIs w' n0 3 v' (n + 1) (xs ++ [.int .i64 T.length])) ∧ Chg (fun k => vblock v = some k ∨ k = c) w w' := by
  obtain ⟨av, cv, rfl, _⟩ := hs.arg
  obtain ⟨i0, k1, k2, k3, k4⟩ := info_parts info_int
  have hcd : w.drew.heap[c]? = some (.cells #[.slice av n cv] 50 (0, 0)) := hc
  have hsd : SliceIs w.drew n0 3 (.slice av n cv) n xs := hs.below (belowN (Below.refl _ _) 1)
  obtain ⟨a', c', W2, W3, hr, hW3, g2, g3, s3, c3, _⟩ := app_cell (P := Tryd.prog) (t := 50) (ty := 50) Tryd.underlying50 k1 k2 k3 k4 rfl (ts := 50) (by decide) hcd hsd hn0 (.int .i64 T.length) rfl (by unfold maxLen; omega) (by omega)
  have HL := Lib.hid (packLen (w := w.drew) (hp.below (belowN (Below.refl _ _) 1)))
  obtain ⟨W1, hW1⟩ : ∃ W1, W1 = (w.alloc (.cells #[.int .i64 T.length] 3)).drew := ⟨_, rfl⟩
  have hc1 : W1.heap[c]? = some (.cells #[.slice av n cv] 50 (0, 0)) := by rw [hW1]; exact heap_old (show w.heap[c]? = _ from hcd) _
  have hx1 : W1.heap[x]? = some (nodeO p a b) := by rw [hW1]; exact heap_old hn _
  obtain ⟨X1, f, hX1, hf, hF⟩ := classOf (fun y => y.cell? ⟨c, 0, none⟩ = some (.slice av n cv) ∧ y.cell? ⟨x, 0, none⟩ = some (pv p)) (w := w.drew) ⟨cell_in hcd rfl, cell_in (show w.drew.heap[x]? = _ from hn) rfl⟩
  have hf1 := fun y => (hf y).1
  have hf2 := fun y => (hf y).2
  have H0 := Lib.hid (hF w.drew ⟨cell_in hcd rfl, cell_in (show w.drew.heap[x]? = _ from hn) rfl⟩)
  have H1 := Lib.hid (hF W1 ⟨cell_in hc1 rfl, cell_in hx1 rfl⟩)
  have hr : (Builtin.append_ #[50, 50] 50 #[.slice av n cv, .slice (some ⟨w.heap.size, 0, none⟩) 1 1]).run Tryd.prog W1 = .ok (.slice a' (n + 1) c') W2 := by rw [hW1]; exact hr
  have HR := Lib.hid hr
  have HW1 := Lib.hid hW1
  have HW3 := Lib.hid hW3
  have q0 := cell_in g2 (i := 0) rfl
  have q1 := frozen_in g2 0
  have HE := Lib.hid (And.intro g3 (And.intro s3 ((Chg.drew _ w).trans c3 fun k hk _ => hk)))
  clear hn hp hc hs hcd hsd hr hW1 hW3 g2 g3 s3 c3 hc1 hx1 hf hF k1 k2 k3 k4
  generalize T.length = nT at *
  go_enter Tryd.func76, Tryd.ntmps76
  go_wp2_with fail
  refine wp_region_text ⟨[5, 6, 7, 8], [], 7⟩ (fun w' => ∃ x : X1, w' = f x) (by kernel_rfl) (by kernel_rfl) H0.out ?_
  refine wpC_seg false (H0.out) 5 0 _ _ (by rfl) (by rfl) ?_
  simp only [List.take_succ_cons, List.take_zero, List.drop_succ_cons, List.drop_zero, Bool.false_eq_true, if_false, Nat.zero_add, Nat.reduceAdd]
  repeat (go_big_quiet_step (fail))
  refine wpQuiet_nil ?_
  refine wpC_loud (by rfl) (by rfl) fun K hK => ?_
  go_wp2_with fail
  refine HL.out.mono ?_
  rintro e w1 ⟨rfl, rfl⟩
  refine hK _ _ (fun _ => H0.out) ?_
  clear hK
  refine wpC_loud (by rfl) (by rfl) fun K hK => ?_
  go_wp2_with fail
  rw [← HW1.out]
  refine hK _ _ (fun _ => H1.out) ?_
  clear hK
  refine wpC_value (by rfl) (by rfl) (exec_append rfl HR.out) (fun h => absurd h (by decide)) ?_
  simp only [Act.put, List.setIfInBounds_toArray, List.set_cons_succ, List.set_cons_zero]
  clear hf1 hf2 H0 H1
  refine wpC_loud (by rfl) (by rfl) fun K hK => ?_
  go_wp2_with fail
  rw [← HW3.out]
  refine hK _ _ (fun h => absurd h (by decide)) ?_
  clear hK
  refine wpC_nil ?_
  go_wp2_with fail
  go_ret
  exact ⟨rfl, ⟨_, HE.out.1, HE.out.2.1⟩, HE.out.2.2⟩
def lenV (nd : Nd) : Value := .int .i64 nd.T.length
set_option maxHeartbeats 1600000 in
set_option maxRecDepth 100000 in
theorem packs_any {w : World} {q : Nat} {Ns : List Nd} {n : Int} (h : QRow w q Ns n) (hfew : Ns.length < 1000000000) :
    Calls Tryd.prog 24 #[pv q] w fun e w' => (∃ v, e = .returned v ∧ SliceIs w' w.heap.size 3 v Ns.length (Ns.map lenV)) ∧ Below w.heap.size w w' := by
  obtain ⟨w1, hw1⟩ : ∃ w1, w1 = w.alloc (.cells #[.slice none 0 0] 50) := ⟨_, rfl⟩
  have e1 : w1.heap[w.heap.size]? = some (.cells #[.slice none 0 0] 50 (0, 0)) := by rw [hw1]; exact heap_new w _
  have hb1 : Below w.heap.size w w1 := by rw [hw1]; exact (Below.refl w.heap.size w).alloc (Nat.le_refl _) _
  have HE := Lib.hid (each_any 76 #[pv w.heap.size] (w := w1) (q := q) (Ns := Ns) (n := n)
    (fun A w' => Below w.heap.size w w' ∧ A.length ≤ Ns.length ∧ ∃ v, w'.heap[w.heap.size]? = some (.cells #[v] 50 (0, 0)) ∧ SliceIs w' w.heap.size 3 v A.length (A.map lenV))
    (fun _ => False) (fun _ _ => rfl) (fun A w' hI => h.below hI.1) (fun A nd B hAB w' hI => by
      obtain ⟨i1, i2, v, i3, i4⟩ := hI
      have hq := h.below i1
      rw [hAB] at hq i2
      have hw : w.heap.size ≤ w'.heap.size := i1.size
      refine (packs1_any hq.node (hq.packs nd (by simp)) i3 i4 hw (by rw [hAB] at hfew; simp at hfew; omega)).mono fun e w'' ⟨he, ⟨v', j1, j2⟩, hc⟩ => .inl ⟨he, belowChg i1 hc hw fun k hk _ => ?_, by rw [hAB]; simp, v', j1, ?_⟩
      · rcases hk with hk | rfl
        · exact (i4.vb hk).1
        · exact Nat.le_refl _
      · rw [List.length_append, List.length_singleton, List.map_append]; exact j2)
    ⟨hb1, Nat.zero_le _, _, e1, SliceIs.nil _ _ _⟩)
  have HW := Lib.hid hw1
  clear hw1 e1 hb1 h
  go_enter Tryd.func24, Tryd.ntmps24
  go_upto_region 1 with (fail)
  rw [← HW.out]
  go_wp2_with fail
  refine HE.out.mono ?_
  rintro e w2 ⟨⟨v, rfl⟩, hpost⟩
  obtain ⟨i1, _, v2, i3, i4⟩ := hpost.resolve_right id
  obtain ⟨a2, c2, rfl, _⟩ := i4.arg
  obtain ⟨w3, hw3⟩ : ∃ w3, w3 = w2.setCell ⟨w.heap.size, 0, none⟩ (.slice a2 Ns.length c2) := ⟨_, rfl⟩
  have hc3 : Chg (fun k => k = w.heap.size) w2 w3 := by rw [hw3]; exact Chg.setCell _ _ _ _ rfl
  have HR := Lib.hid (show w3.cell? ⟨w.heap.size, 0, none⟩ = some (.slice a2 Ns.length c2) ∧ SliceIs w3 w.heap.size 3 (.slice a2 Ns.length c2) Ns.length (Ns.map lenV) ∧ Below w.heap.size w w3 from by
    refine ⟨by rw [hw3]; exact cell_in (setCell_head i3 0 _) rfl, i4.chg hc3 fun k hk e => ?_, belowChg i1 hc3 i1.size fun k hk _ => by omega⟩
    subst e
    obtain ⟨_, _, cur, fz, hh⟩ := i4.vb hk
    rw [i3] at hh
    injection hh with hh
    injection hh with _ hh _
    exact absurd hh (by decide))
  have y1 := cell_in i3 (i := 0) rfl
  have f1 := frozen_in i3 0
  have HW3 := Lib.hid hw3
  clear hpost i1 i3 i4 hw3 hc3
  go_wp2_with fail
  rw [← HW3.out]
  refine bodyPost_ret (v := .slice a2 Ns.length c2) (by have h1 := HR.out.1; simp [results, Tryd.results24, go_sem, h1]) rfl ⟨⟨_, rfl, HR.out.2.1⟩, HR.out.2.2⟩
end Go.Proofs.YtfbhddllimfdlaaDoor

/- quick: the loop of Range over one pack. -/
namespace Go.Proofs.YtfbhddllimfdlaaDoor
set_option linter.unusedVariables false
set_option linter.unusedSimpArgs false
open Go.RowKit Go.Shelf
attribute [local go_sem] Oper.semAt_some
theorem wpListIn_append_runQ {F : Fence} {n : Nat} {P : Program} {ops : Array Oper} {Q : Exit → Act → World → Prop} {rest : List Oper} {o : Oper} {a : Act} {w w' : World} {s x : Operand} {t u : TypeId} {v : Value} (hg : o.guard = none)
    (hop : o.op = .call { callee := .builtin .append, args := #[s, x], argTypes := #[t, u] }) (hr : (Builtin.append_ #[t, u] o.type #[a.eval s, a.eval x]).run P w = .ok v w')
    (h : wpListIn F n P ops Q rest (a.put o.dst v) w') : wpListIn F n P ops Q (o :: rest) a w := by
  refine wpListIn_plain hg fun K hK' => ?_
  unfold Oper.wpIn
  refine ⟨?_, ?_⟩
  · simp [Oper.about, hop, resolve, Target.leads, Sem.run_pure]
  · rw [Oper.semAt_plain F _ _ (by rw [hop]; intro c hc'; cases hc')]
    rw [exec_append hop hr]
    exact hK' _ _ h
/-- The texts from a place on, up to another one. -/
def rangeT (L : List ByteArray) (f : Nat) (t : Int) : List ByteArray := (L.take (t + 1).toNat).drop f
theorem rangeT_snoc (L : List ByteArray) (s : ByteArray) (f : Nat) (t : Int) : rangeT (L ++ [s]) f t = if f ≤ L.length ∧ (L.length : Int) ≤ t then rangeT L f t ++ [s] else rangeT L f t := by
  unfold rangeT
  by_cases h1 : (L.length : Int) ≤ t
  · rw [List.take_of_length_le (by simp; omega), List.take_of_length_le (by omega)]
    by_cases h2 : f ≤ L.length
    · rw [if_pos ⟨h2, h1⟩, List.drop_append_of_le_length h2]
    · rw [if_neg (by omega), List.drop_eq_nil_of_le (by simp; omega), List.drop_eq_nil_of_le (by omega)]
  · rw [if_neg (by omega), List.take_append_of_le_length (by omega)]
theorem rangeT_far (L M : List ByteArray) (f : Nat) (t : Int) (h : t < (L.length : Int)) : rangeT (L ++ M) f t = rangeT L f t := by
  unfold rangeT
  rw [List.take_append_of_le_length (by omega)]
theorem rangeT_length (L : List ByteArray) (f : Nat) (t : Int) : (rangeT L f t).length ≤ L.length := by
  unfold rangeT
  rw [List.length_drop, List.length_take]; omega
theorem rangeT_nil (f : Nat) (t : Int) : rangeT [] f t = [] := by unfold rangeT; simp
theorem KeepP.chgT {N n1 g : Nat} {S : Nat → Prop} {W W' : World} (hc : Chg S W W') (hN : ∀ k, S k → N ≤ k) (hs : N ≤ W.heap.size) (hT : ∀ k, S k → ∀ cs E fz, W.heap[k]? = some (.cells cs E fz) → E ≠ 5 ∧ E ≠ 70) : KeepP N n1 g W W' :=
  ⟨belowChg (Below.refl _ _) hc hs fun k hk _ => hN k hk, hc.size, fun cs fz e => hc.keep e fun hS => (hT _ hS _ _ _ e).1 rfl, fun k cs fz _ e => hc.keep e fun hS => (hT _ hS _ _ _ e).2 rfl⟩
/-- Between two rounds. -/
structure RngI (w0 w : World) (ca cf ct co m f : Nat) (t : Int) (v0 : Value) (L T : List ByteArray) (pre : List { x // x ∈ toldP T }) (W : World) : Prop where
  below : Below w0.heap.size w0 W
  b0 : W.heap[ca]? = some (intO ((m + pre.length : Nat) : Int))
  b1 : W.heap[cf]? = some (intO f)
  b2 : W.heap[ct]? = some (intO t)
  got : ∃ v, W.heap[co]? = some (.cells #[v] 35 (0, 0)) ∧ SliceIs W w0.heap.size 9 v (rangeT (L ++ pre.map (·.1.2)) f t).length ((rangeT (L ++ pre.map (·.1.2)) f t).map strV) ∧ (vblock v = vblock v0 ∨ ∃ k, vblock v = some k ∧ w.heap.size ≤ k)
  chg : Chg (fun k => k = ca ∨ k = co ∨ vblock v0 = some k) w W
theorem RngI.own {w0 w : World} {ca cf ct co m f : Nat} {t : Int} {v0 : Value} {L T : List ByteArray} {B : Nat} (h0 : w0.heap.size ≤ w.heap.size) (hB : w.heap.size ≤ B) : OwnFrom B (RngI w0 w ca cf ct co m f t v0 L T) := by
  rintro pre W W' row h hg hr
  have hr2 := fun r e => (hr r e).2
  obtain ⟨v, g1, g2, g3⟩ := h.got
  refine ⟨grown_belowP h.below hg (fun r e => (hr r e).1) (by omega) (by have := h.chg.size; omega), grown_keepP hg hr2 h.b0, grown_keepP hg hr2 h.b1, grown_keepP hg hr2 h.b2, ⟨v, grown_keepP hg hr2 g1, g2.ownQ hg hr2, g3⟩, ?_⟩
  refine h.chg.trans (S' := fun k => row = some k) ⟨hg.os, hg.tape, hg.output, hg.size, fun k hk hn => hg.block k hk fun e => hn e.symm⟩ fun k hk hlt => ?_
  have := (hr k hk).1
  omega
set_option maxHeartbeats 6400000 in
set_option maxRecDepth 100000 in
theorem range1_any {w0 w : World} (hl : Laid w0) (hb0 : Below w0.heap.size w0 w) (hN : w0.heap.size ≤ w.heap.size) {x p : Nat} {F : Nat → Prop} {T : List ByteArray} {a b : Option Nat} (hn : w.heap[x]? = some (nodeO p a b)) (hp : PackF w p F T)
    {ca cf ct co f : Nat} {t : Int} {v : Value} {L : List ByteArray} (h0 : w.heap[ca]? = some (intO (L.length : Nat))) (h1 : w.heap[cf]? = some (intO f)) (h2 : w.heap[ct]? = some (intO t)) (h3 : w.heap[co]? = some (.cells #[v] 35 (0, 0)))
    (hs : SliceIs w w0.heap.size 9 v (rangeT L f t).length ((rangeT L f t).map strV)) (n1 : ca ≠ cf) (n2 : ca ≠ ct) (na : w0.heap.size ≤ ca) (no : w0.heap.size ≤ co) (hLm : L.length + T.length ≤ 1000000000) (hfm : f ≤ 9223372036854775807) (htm : -9223372036854775808 ≤ t ∧ t ≤ 9223372036854775807) :
    Calls Tryd.prog 68 #[pv x, pv ca, pv cf, pv ct, pv co] w fun e w' => e = .returned (.bool (decide (((L.length + T.length : Nat) : Int) ≤ t))) ∧ w'.heap[ca]? = some (intO ((L.length + T.length : Nat) : Int)) ∧ w'.heap[cf]? = some (intO f) ∧ w'.heap[ct]? = some (intO t) ∧
      (∃ v', w'.heap[co]? = some (.cells #[v'] 35 (0, 0)) ∧ SliceIs w' w0.heap.size 9 v' (rangeT (L ++ T) f t).length ((rangeT (L ++ T) f t).map strV)) ∧ Chg (fun k => k = ca ∨ k = co ∨ vblock v = some k) w w' := by
  have HA := Lib.hid (fun w => packAll w p)
  have xn := cell_in hn (i := 0) rfl
  obtain ⟨w5, hw5⟩ : ∃ w5, w5 = w.alloc (.cells #[.pointer (some ⟨p, 0, none⟩)] 25) := ⟨_, rfl⟩
  have hs5 : w5.heap.size = w.heap.size + 1 := by rw [hw5]; simp
  have hb5 : Below w.heap.size w w5 := by rw [hw5]; exact (Below.refl w.heap.size w).alloc (Nat.le_refl _) _
  have hbp : w5.cell? ⟨w.heap.size, 0, none⟩ = some (.pointer (some ⟨p, 0, none⟩)) := by rw [hw5]; exact cell_in (heap_new _ _) rfl
  have hb05 : Below w0.heap.size w0 w5 := hb0.trans (hb5.mono hN)
  have hI0 : RngI w0 w ca cf ct co L.length f t v L T [] w5 := by
    have k : ∀ {c : Nat} {o : Obj}, w.heap[c]? = some o → w5.heap[c]? = some o := fun {c o} e => (hb5.block c (heap_lt e)).trans e
    refine ⟨hb05, by simpa using k h0, k h1, k h2, ⟨v, k h3, by simpa using hs.below hb5, .inl rfl⟩, Chg.of_below _ hb5⟩
  have h15 := hp.below hb5
  obtain ⟨g, cap, cur, hrw, hF1⟩ := h15
  have HSeq := Lib.hid (packStopsM hl rfl hb05 (by omega) hrw hbp 2)
  have HI0 := Lib.hid hI0
  have HW5 := Lib.hid (And.intro hw5 hs5)
  have H := Lib.hid (And.intro hN (And.intro (And.intro na no) (And.intro (show ∀ k, vblock v = some k → w0.heap.size ≤ k from fun k hk => (hs.vb hk).1) (And.intro h0 h3))))
  have hTm := hp.ok.many
  clear hw5 hs5 hb5 hbp hI0 hrw hl hb0 hb05 hn hp h0 h1 h2 h3 hs hF1 hN na no
  obtain ⟨tm, htmq⟩ : ∃ tm : Array Value, tm = #[pv x, pv ca, pv cf, pv ct, pv co, undef, .bool false, undef, undef, pv x, .pointer (some ⟨x, 0, none⟩), .pointer (some ⟨x, 0, none⟩), .pointer (some ⟨p, 0, none⟩), .func (.func 99) #[] #[.pointer (some ⟨w.heap.size, 0, none⟩)], undef, undef, undef, undef, undef, undef, undef, undef, undef, undef, undef, undef, undef, undef, undef, undef, undef, undef, undef] := ⟨_, rfl⟩
  have HTm := Lib.hid htmq
  clear htmq
  refine callsIn_wide.1 (callsIn_of_wp_marks (n := 3) Tryd.func68 rfl trivial ?_ rfl)
  refine wpIn_wide.2 ?_
  simp only [Tryd.ntmps68, List.size_toArray, List.length_cons, List.length_nil, Nat.reduceAdd, Nat.reduceSub, Array.replicate_succ, Array.replicate_zero, List.push_toArray, List.append_toArray, List.nil_append, List.cons_append]
  go_wp2_with fail
  refine (HA.out w).mono ?_
  rintro en w' ⟨rfl, hw'⟩
  obtain rfl : w' = w5 := hw'.trans HW5.out.1.symm
  clear hw'
  go_wp2_with fail
  refine (wpIn_wide (n := 3)).1 ?_
  refine wpIn_rangeFunc_ownH (F := Fence.wide) rfl (by omega) (gf := 99) (lb := #[.pointer (some ⟨w.heap.size, 0, none⟩)]) rfl trivial (fun args w => rfl) HSeq.out KeepP.trans (fun W l o o' hle hl ho _ => KeepP.putObj W l o o' (by have := HW5.out.2; have := H.out.1; omega) hl ho) (Below.refl _ _) (fun _ => rfl)
    (RngI w0 w ca cf ct co L.length f t v L T) (fun _ _ _ => False) (RngI.own H.out.1 (by have := HW5.out.2; omega)) (fun c => fun _ _ _ _ h _ _ => h) HI0.out (fun x a' _ => a' = { tmps := ((tm.setIfInBounds 14 (.int .i64 x.1.1)).setIfInBounds 15 (.string x.1.2)).setIfInBounds 8 (.string x.1.2), defers := [] }) (fun x a' => fun _ _ _ _ h _ _ => h) ?assign ?body ?done ?stop
  case assign =>
    intro l pre x W K hI hK
    have HI := Lib.hid hI
    clear hI
    unfold encP
    gi_wp2
    refine hK _ _ (KeepsFrom.refl _ _) (KeepP.of_below (Below.refl _ _) (by have := HI.out.chg.size; have := H.out.1; omega)) HI.out ?_
    rw [HTm.out]; rfl
  case body =>
    rintro l pre ⟨⟨xi, xs⟩, hx⟩ a' W _ _ hI rfl hlen
    have HI := Lib.hid hI
    obtain ⟨v1, g1, g2, g3⟩ := hI.got
    obtain ⟨av, cv, rfl, _⟩ := g2.arg
    obtain ⟨M, hM⟩ : ∃ M, L ++ pre.map (·.1.2) = M := ⟨_, rfl⟩
    rw [hM] at g1 g2 g3
    have hMl : M.length = L.length + pre.length := by rw [← hM]; simp
    have hpl : pre.length < T.length := by simpa using hlen
    have x0 := cell_in hI.b0 (i := 0) rfl
    have x1 := cell_in hI.b1 (i := 0) rfl
    have x2 := cell_in hI.b2 (i := 0) rfl
    have x3 := cell_in g1 (i := 0) rfl
    have f0 := frozen_in hI.b0 0
    have f3 := frozen_in g1 0
    have hWs : w0.heap.size ≤ W.heap.size := by have := hI.chg.size; have := H.out.1; omega
    obtain ⟨K, hK⟩ : ∃ K, L.length + pre.length = K := ⟨_, rfl⟩
    rw [hK] at x0 hMl
    have hrl := rangeT_length M f t
    have hsn := rangeT_snoc M xs f t
    rw [hMl] at hsn
    have hcao : ca ≠ co := fun e => by
      have := H.out.2.2.2.1
      rw [e, H.out.2.2.2.2] at this
      injection this with this
      injection this with _ this _
      exact absurd this (by decide)
    rw [HTm.out]
    simp only [List.setIfInBounds_toArray, List.set_cons_succ, List.set_cons_zero]
    have hpre : ∀ (h : (⟨(xi, xs), hx⟩ : { x // x ∈ toldP T }) = ⟨(xi, xs), hx⟩), L ++ (pre ++ [(⟨(xi, xs), hx⟩ : { x // x ∈ toldP T })]).map (fun x => x.1.2) = M ++ [xs] := fun _ => by rw [List.map_append, ← List.append_assoc, hM]; rfl
    by_cases hm : f ≤ K ∧ (K : Int) ≤ t
    · rw [if_pos hm] at hsn
      have d1' : decide (f ≤ K) = true := decide_eq_true hm.1
      have d1 : decide ((f : Int) ≤ (K : Int)) = true := decide_eq_true (by omega)
      have d2 : decide ((K : Int) ≤ t) = true := decide_eq_true hm.2
      obtain ⟨i0, k1, k2, k3, k4⟩ := info_parts info_str
      obtain ⟨a', c', W2, W3, hr, hW3, q2, q3, s3, c3, v3⟩ := app_cell (P := Tryd.prog) (t := 35) (ty := 35) Tryd.underlying35 k1 k2 k3 k4 rfl (ts := 35) (by decide) g1 g2 hWs (.string xs) rfl (by unfold maxLen; omega) (by omega)
      have hvE : ∀ k, vblock (.slice av (rangeT M f t).length cv) = some k → ∃ cur fz, W.heap[k]? = some (.cells cur 9 fz) := fun k hk => (g2.vb hk).2.2
      have hnv : ∀ (k : Nat) (cs : Array Value) (E : TypeId) (fz : Nat × Nat), W.heap[k]? = some (.cells cs E fz) → E ≠ 9 → vblock (.slice av (rangeT M f t).length cv) ≠ some k := fun k cs E fz hk hE e => by
        obtain ⟨cur, fz', hh⟩ := hvE k e
        rw [hk] at hh; cases hh; exact hE rfl
      have h3c : W3.heap[ca]? = some (intO K) := by
        rw [← hK]
        exact c3.keep hI.b0 fun h => h.elim (fun h => hnv _ _ _ _ hI.b0 (by decide) h) hcao
      have h2c : W2.heap[ca]? = some (intO K) := by
        have := h3c
        rw [hW3, Below.heap_setCell _ _ _ _ hcao] at this
        exact this
      have yy0 := cell_in h2c (i := 0) rfl
      have yyf := frozen_in h2c 0
      have y0 := cell_in h3c (i := 0) rfl
      have yf := frozen_in h3c 0
      have z0 := cell_in q2 (i := 0) rfl
      have zf := frozen_in q2 0
      obtain ⟨W4, hW4⟩ : ∃ W4, W4 = W3.setCell ⟨ca, 0, none⟩ (.int .i64 ((K : Int) + 1)) := ⟨_, rfl⟩
      have c4 : Chg (fun k => k = ca) W3 W4 := by rw [hW4]; exact Chg.setCell _ _ _ _ rfl
      have h4c : W4.heap[ca]? = some (intO ((K + 1 : Nat) : Int)) := by rw [hW4, setCell_head h3c 0 _, show ((K + 1 : Nat) : Int) = (K : Int) + 1 by omega]; rfl
      have hc : Chg (fun k => (vblock (.slice av (rangeT M f t).length cv) = some k ∨ k = co) ∨ k = ca) W W4 := (c3.mono fun k hk _ => .inl hk).trans c4 fun k hk _ => .inr hk
      have HFin := Lib.hid (show ownPostG w'.heap.size (KeepP w0.heap.size w'.heap.size g) (RngI w0 w ca cf ct co L.length f t v L T) (fun _ _ _ => False) (pre ++ [⟨(xi, xs), hx⟩]) W .normal { tmps := #[], defers := [] } W4 from by
        have h' := H.out
        refine ⟨keepsFrom_ofP _ hc fun k hk o ho => ?_, KeepP.chgT hc (fun k hk => ?_) hWs fun k hk cs E fz e => ?_, belowChg hI.below hc hWs fun k hk _ => ?_, ?_, hc.keep hI.b1 ?_, hc.keep hI.b2 ?_, ⟨_, c4.keep q3 (Ne.symm hcao), ?_, ?_⟩, hI.chg.trans hc fun k hk hlt => ?_⟩
        · rcases hk with (hk | rfl) | rfl
          · obtain ⟨cur, fz, hh⟩ := hvE k hk
            rw [hh] at ho; cases ho; rfl
          · rw [g1] at ho; cases ho; rfl
          · rw [hI.b0] at ho; cases ho; rfl
        · rcases hk with (hk | rfl) | rfl
          · exact (g2.vb hk).1
          · exact h'.2.1.2
          · exact h'.2.1.1
        · rcases hk with (hk | rfl) | rfl
          · obtain ⟨cur, fz', hh⟩ := hvE k hk
            rw [hh] at e; cases e; exact ⟨by decide, by decide⟩
          · rw [g1] at e; cases e; exact ⟨by decide, by decide⟩
          · rw [hI.b0] at e; cases e; exact ⟨by decide, by decide⟩
        · rcases hk with (hk | rfl) | rfl
          · exact (g2.vb hk).1
          · exact h'.2.1.2
          · exact h'.2.1.1
        · rw [h4c]
          congr 3
          rw [List.length_append, List.length_singleton, ← hK]; rfl
        · rintro ((h | h) | h)
          · exact hnv _ _ _ _ hI.b1 (by decide) h
          · have := hI.b1; rw [h, g1] at this; injection this with this; injection this with _ this _; exact absurd this (by decide)
          · exact n1 h.symm
        · rintro ((h | h) | h)
          · exact hnv _ _ _ _ hI.b2 (by decide) h
          · have := hI.b2; rw [h, g1] at this; injection this with this; injection this with _ this _; exact absurd this (by decide)
          · exact n2 h.symm
        · rw [hpre rfl, hsn, List.length_append, List.length_singleton, List.map_append]
          refine s3.chg c4 fun k hk e => ?_
          subst e
          obtain ⟨_, _, cur, fz, hh⟩ := s3.vb hk
          rw [h3c] at hh; cases hh
        · rcases v3 with h | ⟨k, h, hk⟩
          · rcases g3 with h5 | ⟨k5, h5, h6⟩
            · exact .inl (h.trans h5)
            · exact .inr ⟨k5, h.trans h5, h6⟩
          · exact .inr ⟨k, h, Nat.le_trans hI.chg.size hk⟩
        · rcases hk with (hk | rfl) | rfl
          · rcases g3 with h5 | ⟨k5, h5, h6⟩
            · exact .inr (.inr (h5.symm.trans hk))
            · rw [h5] at hk; cases hk; omega
          · exact .inr (.inl rfl)
          · exact .inl rfl)
      have HR := Lib.hid hr
      have HW3 := Lib.hid hW3
      have HW4 := Lib.hid hW4
      clear hI g1 g2 g3 hr hW3 q2 q3 s3 c3 v3 hvE hnv h3c h2c hW4 c4 h4c hc hsn hm hpre k1 k2 k3 k4
      generalize (rangeT M f t).length = nR at *
      gi_wp2_with (gi_at_builtin; refine wpListIn_append_runQ rfl rfl HR.out ?_)
      rw [← HW3.out, ← HW4.out]
      exact HFin.out
    · rw [if_neg hm] at hsn
      obtain ⟨W4, hW4⟩ : ∃ W4, W4 = W.setCell ⟨ca, 0, none⟩ (.int .i64 ((K : Int) + 1)) := ⟨_, rfl⟩
      have c4 : Chg (fun k => k = ca) W W4 := by rw [hW4]; exact Chg.setCell _ _ _ _ rfl
      have h4c : W4.heap[ca]? = some (intO ((K + 1 : Nat) : Int)) := by rw [hW4, setCell_head hI.b0 0 _, show ((K + 1 : Nat) : Int) = (K : Int) + 1 by omega]; rfl
      have HFin := Lib.hid (show ownPostG w'.heap.size (KeepP w0.heap.size w'.heap.size g) (RngI w0 w ca cf ct co L.length f t v L T) (fun _ _ _ => False) (pre ++ [⟨(xi, xs), hx⟩]) W .normal { tmps := #[], defers := [] } W4 from by
        have h' := H.out
        refine ⟨keepsFrom_ofP _ c4 fun k hk o ho => ?_, KeepP.chgT c4 (fun k hk => hk ▸ h'.2.1.1) hWs fun k hk cs E fz e => ?_, belowChg hI.below c4 hWs fun k hk _ => hk ▸ h'.2.1.1, ?_, c4.keep hI.b1 (Ne.symm n1), c4.keep hI.b2 (Ne.symm n2), ⟨_, c4.keep g1 (Ne.symm hcao), ?_, g3⟩, hI.chg.trans c4 fun k hk hlt => .inl hk⟩
        · subst hk
          rw [hI.b0] at ho; cases ho; rfl
        · subst hk
          rw [hI.b0] at e; cases e; exact ⟨by decide, by decide⟩
        · rw [h4c]
          congr 3
          rw [List.length_append, List.length_singleton, ← hK]; rfl
        · rw [hpre rfl, hsn]
          refine g2.chg c4 fun k hk e => ?_
          subst e
          obtain ⟨_, _, cur, fz, hh⟩ := g2.vb hk
          rw [hI.b0] at hh; cases hh)
      have HW4 := Lib.hid hW4
      clear hI g2 g3 hW4 c4 h4c hsn hpre
      generalize (rangeT M f t).length = nR at *
      by_cases h1 : f ≤ K
      · have d1 : decide ((f : Int) ≤ (K : Int)) = true := decide_eq_true (by omega)
        have d1' : decide (f ≤ K) = true := decide_eq_true h1
        have d2 : decide ((K : Int) ≤ t) = false := decide_eq_false (by omega)
        clear hm
        gi_wp2
        rw [← HW4.out]
        exact HFin.out
      · have d1 : decide ((f : Int) ≤ (K : Int)) = false := decide_eq_false (by omega)
        have d1' : decide (f ≤ K) = false := decide_eq_false h1
        clear hm
        gi_wp2
        rw [← HW4.out]
        exact HFin.out
  case done =>
    rintro D xs W hD hxs hI hK
    obtain ⟨v1, g1, g2, g3⟩ := hI.got
    have hmap : xs.map (fun x => x.1.2) = T := by
      have e := congrArg (List.map Prod.snd) hxs
      rw [List.map_map] at e
      have h2 : (toldP T).map Prod.snd = T := by
        apply List.ext_getElem
        · simp
        · intro i h3 h4
          simp only [List.length_map, toldP_length] at h3
          simp [toldP, List.getD, h3]
      rw [h2] at e
      exact e
    have hlen : xs.length = T.length := by have := congrArg List.length hmap; simpa using this
    rw [hmap] at g2
    have b0 := hI.b0
    rw [hlen] at b0
    have x0 := cell_in b0 (i := 0) rfl
    have x2 := cell_in hI.b2 (i := 0) rfl
    have hg := grownBy_putObj' W D (.deferred none)
    have hr : ∀ r, some D = some r → ∃ o : Obj, W.heap[r]? = some o ∧ o.isCells = false := fun r e => by cases e; exact ⟨_, hK, rfl⟩
    have HFin := Lib.hid (show ((W.putObj D (.deferred none)).heap[ca]? = some (intO ((L.length + T.length : Nat) : Int)) ∧ (W.putObj D (.deferred none)).heap[cf]? = some (intO f) ∧ (W.putObj D (.deferred none)).heap[ct]? = some (intO t) ∧ (∃ v', (W.putObj D (.deferred none)).heap[co]? = some (.cells #[v'] 35 (0, 0)) ∧ SliceIs (W.putObj D (.deferred none)) w0.heap.size 9 v' (rangeT (L ++ T) f t).length ((rangeT (L ++ T) f t).map strV)) ∧ Chg (fun k => k = ca ∨ k = co ∨ vblock v = some k) w (W.putObj D (.deferred none))) ∧ W.heap[D]? = some (.deferred (some [])) from by
      refine ⟨⟨grown_keepP hg hr b0, grown_keepP hg hr hI.b1, grown_keepP hg hr hI.b2, ⟨v1, grown_keepP hg hr g1, g2.ownQ hg hr⟩, ?_⟩, hK⟩
      refine hI.chg.trans (S' := fun k => k = D) ⟨hg.os, hg.tape, hg.output, hg.size, fun k hk hn => hg.block k hk fun e => hn (by cases e; rfl)⟩ fun k hk hlt => ?_
      subst hk
      have := HW5.out.2
      omega)
    clear hI g1 g2 g3 hmap hlen b0 hg hr hK hxs
    obtain ⟨N, hN⟩ : ∃ N, L.length + T.length = N := ⟨_, rfl⟩
    rw [hN] at x0 HFin hLm
    have HN := Lib.hid hN
    clear hN
    go_wp2_with fail
    refine ⟨by simp, .inl ⟨_, _, rfl, run_takeDeferred HFin.out.2, ?_⟩⟩
    refine ⟨_, results_tmp rfl _ _ _, ?_⟩
    rw [HN.out]
    exact ⟨rfl, HFin.out.1⟩
  case stop =>
    rintro D c pre W hD hpre hX hK
    exact hX.elim
end Go.Proofs.YtfbhddllimfdlaaDoor

/- quick: Range. -/
namespace Go.Proofs.YtfbhddllimfdlaaDoor
set_option linter.unusedVariables false
set_option linter.unusedSimpArgs false
open Go.RowKit Go.Shelf
/-- From where on, up to where. -/
def rfN (n : Nat) (a : Int) : Nat := if a < 0 then (a + n).toNat else a.toNat
def rtN (n : Nat) (b : Int) : Int := if b < 0 then b + n else b
set_option maxRecDepth 100000 in
/-- The loop over all packs. -/
theorem range_each {w w7 : World} (hl : Laid w) {q : Nat} {Ns : List Nd} {n : Int} (h : QRow w q Ns n) {ca cf ct co f : Nat} {t : Int} (hb : Below w.heap.size w w7) (hfn : (flatN Ns).length ≤ 1000000000)
    (h0 : w7.heap[ca]? = some (intO 0)) (h1 : w7.heap[cf]? = some (intO f)) (h2 : w7.heap[ct]? = some (intO t)) (h3 : w7.heap[co]? = some (.cells #[.slice none 0 0] 35 (0, 0)))
    (n1 : ca ≠ cf) (n2 : ca ≠ ct) (na : w.heap.size ≤ ca) (no : w.heap.size ≤ co) (hfm : f ≤ 9223372036854775807) (htm : -9223372036854775808 ≤ t ∧ t ≤ 9223372036854775807) :
    Calls Tryd.prog 67 #[pv q, .func (.func 68) #[] #[pv ca, pv cf, pv ct, pv co]] w7 fun e w' => (∃ v, e = .returned v) ∧ Below w.heap.size w w' ∧
      ∃ v, w'.heap[co]? = some (.cells #[v] 35 (0, 0)) ∧ SliceIs w' w.heap.size 9 v (rangeT (flatN Ns) f t).length ((rangeT (flatN Ns) f t).map strV) := by
  refine (each_any 68 #[pv ca, pv cf, pv ct, pv co] (w := w7) (q := q) (Ns := Ns) (n := n)
    (fun A w' => Below w.heap.size w w' ∧ w'.heap[ca]? = some (intO ((flatN A).length : Nat)) ∧ w'.heap[cf]? = some (intO f) ∧ w'.heap[ct]? = some (intO t) ∧ ∃ v, w'.heap[co]? = some (.cells #[v] 35 (0, 0)) ∧ SliceIs w' w.heap.size 9 v (rangeT (flatN A) f t).length ((rangeT (flatN A) f t).map strV))
    (fun w' => Below w.heap.size w w' ∧ ∃ v, w'.heap[co]? = some (.cells #[v] 35 (0, 0)) ∧ SliceIs w' w.heap.size 9 v (rangeT (flatN Ns) f t).length ((rangeT (flatN Ns) f t).map strV))
    (fun _ _ => rfl) (fun A w' hI => h.below hI.1) (fun A nd B hAB w' hI => ?_) ⟨hb, h0, h1, h2, _, h3, by rw [show flatN [] = [] from rfl, rangeT_nil]; exact SliceIs.nil _ _ _⟩).mono fun e w' ⟨hv, hp⟩ => ⟨hv, ?_⟩
  · obtain ⟨i1, i2, i3, i4, v, i5, i6⟩ := hI
    have hq := h.below i1
    rw [hAB] at hq
    have hsz : w.heap.size ≤ w'.heap.size := i1.size
    have hfl : flatN Ns = flatN A ++ nd.T ++ flatN B := by rw [hAB, flat_append, flat_cons, List.append_assoc]
    have hlen : (flatN A).length + nd.T.length ≤ 1000000000 := by rw [hfl, List.length_append, List.length_append] at hfn; omega
    refine (range1_any hl i1 hsz hq.node (hq.packs nd (by simp)) i2 i3 i4 i5 i6 n1 n2 na no hlen hfm htm).mono fun e w'' ⟨he, j1, j2, j3, ⟨v', j4, j5⟩, hc⟩ => ?_
    have hb' : Below w.heap.size w w'' := belowChg i1 hc hsz fun k hk _ => by
      rcases hk with rfl | rfl | hk
      · exact na
      · exact no
      · exact (i6.vb hk).1
    by_cases hd : (((flatN A).length + nd.T.length : Nat) : Int) ≤ t
    · refine .inl ⟨by rw [he, decide_eq_true hd], hb', ?_, j2, j3, v', j4, ?_⟩
      · rw [flat_append, flat_cons, flat_nil, List.append_nil, List.length_append]; exact j1
      · rw [flat_append, flat_cons, flat_nil, List.append_nil]; exact j5
    · refine .inr ⟨by rw [he, decide_eq_false hd], hb', v', j4, ?_⟩
      rw [hfl, rangeT_far (flatN A ++ nd.T) (flatN B) f t (by rw [List.length_append]; omega)]
      exact j5
  · rcases hp with ⟨i1, _, _, _, i5⟩ | hp
    · exact ⟨i1, i5⟩
    · exact hp
set_option maxHeartbeats 6400000 in
set_option maxRecDepth 100000 in
theorem quickRange {w : World} (hl : Laid w) {q : Nat} {F : Nat → Prop} {L : List ByteArray} (h : QuickF w q F L) (hn : L.length ≤ 1000000000) (a b : Int) (ha : -9223372036854775808 ≤ a ∧ a ≤ 9223372036854775807) (hb : -9223372036854775808 ≤ b ∧ b ≤ 9223372036854775807) :
    Calls Tryd.prog 19 #[pv q, .int .i64 a, .int .i64 b] w fun e w' => (∃ v, e = .returned v ∧ SliceIs w' w.heap.size 9 v (rangeT L (rfN L.length a) (rtN L.length b)).length ((rangeT L (rfN L.length a) (rtN L.length b)).map strV)) ∧ Below w.heap.size w w' := by
  obtain ⟨Ns, h1, h2, rfl, h4⟩ := h
  obtain ⟨w3, hw3⟩ : ∃ w3, w3 = ((w.alloc (.cells #[.int .i64 a] 3)).alloc (.cells #[.int .i64 b] 3)).alloc (.cells #[.slice none 0 0] 35) := ⟨_, rfl⟩
  have e1 : w3.heap[w.heap.size]? = some (intO a) := by rw [hw3]; exact heap_old (heap_old (heap_new w _) _) _
  have e2 : w3.heap[w.heap.size + 1]? = some (intO b) := by
    have := heap_old (heap_new (w.alloc (.cells #[.int .i64 a] 3)) (.cells #[.int .i64 b] 3)) (.cells #[.slice none 0 0] 35)
    rw [World.size_alloc] at this
    rw [hw3]; exact this
  have e3 : w3.heap[w.heap.size + 1 + 1]? = some (.cells #[.slice none 0 0] 35 (0, 0)) := by
    have := heap_new ((w.alloc (.cells #[.int .i64 a] 3)).alloc (.cells #[.int .i64 b] 3)) (.cells #[.slice none 0 0] 35)
    rw [World.size_alloc, World.size_alloc] at this
    rw [hw3]; exact this
  have hb3 : Below w.heap.size w w3 := by rw [hw3]; exact (((Below.refl w.heap.size w).alloc (Nat.le_refl _) _).alloc (by simp) _).alloc (by simp; omega) _
  have hs3 : w3.heap.size = w.heap.size + 3 := by rw [hw3]; simp
  have hrt : rtN (flatN Ns).length b = if b < 0 then b + ((flatN Ns).length : Nat) else b := rfl
  obtain ⟨n, hnn⟩ : ∃ n, (flatN Ns).length = n := ⟨_, rfl⟩
  rw [hnn] at h1 hn hrt ⊢
  have HL := Lib.hid (qlen_any (h1.below hb3))
  -- the cells behind the bounds' making
  have HM := Lib.hid (show ∀ (fv tv : Int) (w5 : World), Chg (fun k => k = w.heap.size ∨ k = w.heap.size + 1) w3 w5 → w5.heap[w.heap.size]? = some (intO fv) → w5.heap[w.heap.size + 1]? = some (intO tv) → fv = (rfN n a : Nat) → tv = rtN n b →
      Calls Tryd.prog 67 #[pv q, .func (.func 68) #[] #[pv w5.heap.size, pv w.heap.size, pv (w.heap.size + 1), pv (w.heap.size + 1 + 1)]] (w5.alloc (.cells #[.int .i64 0] 3)) fun e w' => (∃ v, e = .returned v) ∧ Below w.heap.size w w' ∧
      ∃ v, w'.heap[w.heap.size + 1 + 1]? = some (.cells #[v] 35 (0, 0)) ∧ SliceIs w' w.heap.size 9 v (rangeT (flatN Ns) (rfN n a) (rtN n b)).length ((rangeT (flatN Ns) (rfN n a) (rtN n b)).map strV) from fun fv tv w5 hc g1 g2 hf ht => by
    have hsz := hc.size
    have hb5 : Below w.heap.size w w5 := belowChg hb3 hc (by omega) fun k hk _ => by omega
    have hb7 : Below w.heap.size w (w5.alloc (.cells #[.int .i64 0] 3)) := hb5.alloc (by omega) _
    have k5 : ∀ {c : Nat} {o : Obj}, w5.heap[c]? = some o → (w5.alloc (.cells #[.int .i64 0] 3)).heap[c]? = some o := fun {c o} e => heap_old e _
    have hf1 : rfN n a ≤ 9223372036854775807 := by unfold rfN; split <;> omega
    have ht1 : -9223372036854775808 ≤ rtN n b ∧ rtN n b ≤ 9223372036854775807 := by unfold rtN; split <;> omega
    rw [hf] at g1
    rw [ht] at g2
    exact range_each hl h1 hb7 (by omega) (heap_new w5 _) (k5 g1) (k5 g2) (k5 (hc.keep e3 (by omega))) (by omega) (by omega) (by omega) (by omega) hf1 ht1)
  have x1 := cell_in e1 (i := 0) rfl
  have x2 := cell_in e2 (i := 0) rfl
  have f1 := frozen_in e1 0
  have f2 := frozen_in e2 0
  have HE := Lib.hid (And.intro e1 (And.intro e2 hs3))
  have HW3 := Lib.hid hw3
  clear hw3 e1 e2 e3 hb3 h1 h2 h4 hl hrt hnn hs3
  by_cases ha0 : 0 ≤ a
  · have da : decide (a < 0) = false := decide_eq_false (by omega)
    by_cases hb0 : 0 ≤ b
    · have db : decide (b < 0) = false := decide_eq_false (by omega)
      obtain ⟨w5, hw5⟩ : ∃ w5, w5 = w3 := ⟨_, rfl⟩
      have HM5 := Lib.hid (HM.out a b w5 (by rw [hw5]; exact Chg.refl _ _) (by rw [hw5]; exact HE.out.1) (by rw [hw5]; exact HE.out.2.1) (by unfold rfN; rw [if_neg (by omega)]; omega) (by unfold rtN; rw [if_neg (by omega)]))
      have HW5 := Lib.hid hw5
      clear hw5 HM
      go_enter Tryd.func19, Tryd.ntmps19
      go_upto_region 1 with (fail)
      rw [← HW3.out]
      go_wp2_with fail
      refine HL.out.mono ?_
      rintro e w' ⟨rfl, rfl⟩
      go_upto_region 6 with (fail)
      rw [show w3 = w5 from HW5.out.symm]
      go_wp2_with fail
      refine HM5.out.mono ?_
      rintro e w8 ⟨⟨v, rfl⟩, hbl, v8, g8, s8⟩
      obtain ⟨a8, c8, rfl, _⟩ := s8.arg
      have y8 := cell_in g8 (i := 0) rfl
      have z8 := frozen_in g8 0
      obtain ⟨w9, hw9⟩ : ∃ w9, w9 = w8.setCell ⟨w.heap.size + 1 + 1, 0, none⟩ (.slice a8 (rangeT (flatN Ns) (rfN n a) (rtN n b)).length c8) := ⟨_, rfl⟩
      have HR := Lib.hid (show w9.cell? ⟨w.heap.size + 1 + 1, 0, none⟩ = some (.slice a8 (rangeT (flatN Ns) (rfN n a) (rtN n b)).length c8) ∧ SliceIs w9 w.heap.size 9 (.slice a8 (rangeT (flatN Ns) (rfN n a) (rtN n b)).length c8) (rangeT (flatN Ns) (rfN n a) (rtN n b)).length ((rangeT (flatN Ns) (rfN n a) (rtN n b)).map strV) ∧ Below w.heap.size w w9 from by
        have hc9 : Chg (fun k => k = w.heap.size + 1 + 1) w8 w9 := by rw [hw9]; exact Chg.setCell _ _ _ _ rfl
        refine ⟨by rw [hw9]; exact cell_in (setCell_head g8 0 _) rfl, s8.chg hc9 fun k hk e => ?_, belowChg hbl hc9 hbl.size fun k hk _ => by omega⟩
        subst e
        obtain ⟨_, _, cur, fz, hh⟩ := s8.vb hk
        rw [g8] at hh
        injection hh with hh
        injection hh with _ hh _
        exact absurd hh (by decide))
      have HW9 := Lib.hid hw9
      clear hw9 g8 s8 hbl HM5
      go_wp2_with fail
      rw [← HW9.out]
      refine bodyPost_ret (v := .slice a8 (rangeT (flatN Ns) (rfN n a) (rtN n b)).length c8) (by have h1 := HR.out.1; simp [results, Tryd.results19, go_sem, h1]) rfl ⟨⟨_, rfl, ?_⟩, HR.out.2.2⟩
      exact HR.out.2.1
    · have db : decide (b < 0) = true := decide_eq_true (by omega)
      obtain ⟨w5, hw5⟩ : ∃ w5, w5 = (w3.setCell ⟨w.heap.size + 1, 0, none⟩ (.int .i64 (b + (n : Int)))) := ⟨_, rfl⟩
      have HM5 := Lib.hid (HM.out a (b + (n : Int)) w5 (by rw [hw5]; exact (Chg.setCell (fun k => k = w.heap.size ∨ k = w.heap.size + 1) w3 ⟨w.heap.size + 1, 0, none⟩ _ (.inr rfl))) (by rw [hw5]; exact (Chg.setCell (fun k => k = w.heap.size + 1) w3 ⟨w.heap.size + 1, 0, none⟩ _ rfl).keep (HE.out.1) (by omega)) (by rw [hw5]; exact setCell_head (HE.out.2.1) 0 _) (by unfold rfN; rw [if_neg (by omega)]; omega) (by unfold rtN; rw [if_pos (by omega)]))
      have HW5 := Lib.hid hw5
      clear hw5 HM
      go_enter Tryd.func19, Tryd.ntmps19
      go_upto_region 1 with (fail)
      rw [← HW3.out]
      go_wp2_with fail
      refine HL.out.mono ?_
      rintro e w' ⟨rfl, rfl⟩
      go_upto_region 6 with (fail)
      rw [← HW5.out]
      go_wp2_with fail
      refine HM5.out.mono ?_
      rintro e w8 ⟨⟨v, rfl⟩, hbl, v8, g8, s8⟩
      obtain ⟨a8, c8, rfl, _⟩ := s8.arg
      have y8 := cell_in g8 (i := 0) rfl
      have z8 := frozen_in g8 0
      obtain ⟨w9, hw9⟩ : ∃ w9, w9 = w8.setCell ⟨w.heap.size + 1 + 1, 0, none⟩ (.slice a8 (rangeT (flatN Ns) (rfN n a) (rtN n b)).length c8) := ⟨_, rfl⟩
      have HR := Lib.hid (show w9.cell? ⟨w.heap.size + 1 + 1, 0, none⟩ = some (.slice a8 (rangeT (flatN Ns) (rfN n a) (rtN n b)).length c8) ∧ SliceIs w9 w.heap.size 9 (.slice a8 (rangeT (flatN Ns) (rfN n a) (rtN n b)).length c8) (rangeT (flatN Ns) (rfN n a) (rtN n b)).length ((rangeT (flatN Ns) (rfN n a) (rtN n b)).map strV) ∧ Below w.heap.size w w9 from by
        have hc9 : Chg (fun k => k = w.heap.size + 1 + 1) w8 w9 := by rw [hw9]; exact Chg.setCell _ _ _ _ rfl
        refine ⟨by rw [hw9]; exact cell_in (setCell_head g8 0 _) rfl, s8.chg hc9 fun k hk e => ?_, belowChg hbl hc9 hbl.size fun k hk _ => by omega⟩
        subst e
        obtain ⟨_, _, cur, fz, hh⟩ := s8.vb hk
        rw [g8] at hh
        injection hh with hh
        injection hh with _ hh _
        exact absurd hh (by decide))
      have HW9 := Lib.hid hw9
      clear hw9 g8 s8 hbl HM5
      go_wp2_with fail
      rw [← HW9.out]
      refine bodyPost_ret (v := .slice a8 (rangeT (flatN Ns) (rfN n a) (rtN n b)).length c8) (by have h1 := HR.out.1; simp [results, Tryd.results19, go_sem, h1]) rfl ⟨⟨_, rfl, ?_⟩, HR.out.2.2⟩
      exact HR.out.2.1
  · have da : decide (a < 0) = true := decide_eq_true (by omega)
    by_cases ha1 : 0 ≤ a + (n : Int)
    · have hmx : max (a + (n : Int)) 0 = a + (n : Int) := by omega
      by_cases hb0 : 0 ≤ b
      · have db : decide (b < 0) = false := decide_eq_false (by omega)
        obtain ⟨w5, hw5⟩ : ∃ w5, w5 = (w3.setCell ⟨w.heap.size, 0, none⟩ (.int .i64 (a + (n : Int)))) := ⟨_, rfl⟩
        have HM5 := Lib.hid (HM.out (a + (n : Int)) b w5 (by rw [hw5]; exact (Chg.setCell (fun k => k = w.heap.size ∨ k = w.heap.size + 1) w3 ⟨w.heap.size, 0, none⟩ _ (.inl rfl))) (by rw [hw5]; exact setCell_head HE.out.1 0 _) (by rw [hw5]; exact (Chg.setCell (fun k => k = w.heap.size) w3 ⟨w.heap.size, 0, none⟩ _ rfl).keep HE.out.2.1 (by omega)) (by unfold rfN; rw [if_pos (by omega)]; omega) (by unfold rtN; rw [if_neg (by omega)]))
        have HW5 := Lib.hid hw5
        clear hw5 HM
        go_enter Tryd.func19, Tryd.ntmps19
        go_upto_region 1 with (fail)
        rw [← HW3.out]
        go_wp2_with fail
        refine HL.out.mono ?_
        rintro e w' ⟨rfl, rfl⟩
        go_upto_region 6 with (fail)
        rw [← HW5.out]
        go_wp2_with fail
        refine HM5.out.mono ?_
        rintro e w8 ⟨⟨v, rfl⟩, hbl, v8, g8, s8⟩
        obtain ⟨a8, c8, rfl, _⟩ := s8.arg
        have y8 := cell_in g8 (i := 0) rfl
        have z8 := frozen_in g8 0
        obtain ⟨w9, hw9⟩ : ∃ w9, w9 = w8.setCell ⟨w.heap.size + 1 + 1, 0, none⟩ (.slice a8 (rangeT (flatN Ns) (rfN n a) (rtN n b)).length c8) := ⟨_, rfl⟩
        have HR := Lib.hid (show w9.cell? ⟨w.heap.size + 1 + 1, 0, none⟩ = some (.slice a8 (rangeT (flatN Ns) (rfN n a) (rtN n b)).length c8) ∧ SliceIs w9 w.heap.size 9 (.slice a8 (rangeT (flatN Ns) (rfN n a) (rtN n b)).length c8) (rangeT (flatN Ns) (rfN n a) (rtN n b)).length ((rangeT (flatN Ns) (rfN n a) (rtN n b)).map strV) ∧ Below w.heap.size w w9 from by
          have hc9 : Chg (fun k => k = w.heap.size + 1 + 1) w8 w9 := by rw [hw9]; exact Chg.setCell _ _ _ _ rfl
          refine ⟨by rw [hw9]; exact cell_in (setCell_head g8 0 _) rfl, s8.chg hc9 fun k hk e => ?_, belowChg hbl hc9 hbl.size fun k hk _ => by omega⟩
          subst e
          obtain ⟨_, _, cur, fz, hh⟩ := s8.vb hk
          rw [g8] at hh
          injection hh with hh
          injection hh with _ hh _
          exact absurd hh (by decide))
        have HW9 := Lib.hid hw9
        clear hw9 g8 s8 hbl HM5
        go_wp2_with fail
        rw [← HW9.out]
        refine bodyPost_ret (v := .slice a8 (rangeT (flatN Ns) (rfN n a) (rtN n b)).length c8) (by have h1 := HR.out.1; simp [results, Tryd.results19, go_sem, h1]) rfl ⟨⟨_, rfl, ?_⟩, HR.out.2.2⟩
        exact HR.out.2.1
      · have db : decide (b < 0) = true := decide_eq_true (by omega)
        obtain ⟨w5, hw5⟩ : ∃ w5, w5 = ((w3.setCell ⟨w.heap.size, 0, none⟩ (.int .i64 (a + (n : Int)))).setCell ⟨w.heap.size + 1, 0, none⟩ (.int .i64 (b + (n : Int)))) := ⟨_, rfl⟩
        have HM5 := Lib.hid (HM.out (a + (n : Int)) (b + (n : Int)) w5 (by rw [hw5]; exact Chg.trans (Chg.setCell (fun k => k = w.heap.size ∨ k = w.heap.size + 1) w3 ⟨w.heap.size, 0, none⟩ _ (.inl rfl)) (Chg.setCell (fun k => k = w.heap.size ∨ k = w.heap.size + 1) (w3.setCell ⟨w.heap.size, 0, none⟩ (.int .i64 (a + (n : Int)))) ⟨w.heap.size + 1, 0, none⟩ _ (.inr rfl)) fun k hk _ => hk) (by rw [hw5]; exact (Chg.setCell (fun k => k = w.heap.size + 1) (w3.setCell ⟨w.heap.size, 0, none⟩ (.int .i64 (a + (n : Int)))) ⟨w.heap.size + 1, 0, none⟩ _ rfl).keep (setCell_head HE.out.1 0 _) (by omega)) (by rw [hw5]; exact setCell_head ((Chg.setCell (fun k => k = w.heap.size) w3 ⟨w.heap.size, 0, none⟩ _ rfl).keep HE.out.2.1 (by omega)) 0 _) (by unfold rfN; rw [if_pos (by omega)]; omega) (by unfold rtN; rw [if_pos (by omega)]))
        have HW5 := Lib.hid hw5
        clear hw5 HM
        go_enter Tryd.func19, Tryd.ntmps19
        go_upto_region 1 with (fail)
        rw [← HW3.out]
        go_wp2_with fail
        refine HL.out.mono ?_
        rintro e w' ⟨rfl, rfl⟩
        go_upto_region 6 with (fail)
        rw [← HW5.out]
        go_wp2_with fail
        refine HM5.out.mono ?_
        rintro e w8 ⟨⟨v, rfl⟩, hbl, v8, g8, s8⟩
        obtain ⟨a8, c8, rfl, _⟩ := s8.arg
        have y8 := cell_in g8 (i := 0) rfl
        have z8 := frozen_in g8 0
        obtain ⟨w9, hw9⟩ : ∃ w9, w9 = w8.setCell ⟨w.heap.size + 1 + 1, 0, none⟩ (.slice a8 (rangeT (flatN Ns) (rfN n a) (rtN n b)).length c8) := ⟨_, rfl⟩
        have HR := Lib.hid (show w9.cell? ⟨w.heap.size + 1 + 1, 0, none⟩ = some (.slice a8 (rangeT (flatN Ns) (rfN n a) (rtN n b)).length c8) ∧ SliceIs w9 w.heap.size 9 (.slice a8 (rangeT (flatN Ns) (rfN n a) (rtN n b)).length c8) (rangeT (flatN Ns) (rfN n a) (rtN n b)).length ((rangeT (flatN Ns) (rfN n a) (rtN n b)).map strV) ∧ Below w.heap.size w w9 from by
          have hc9 : Chg (fun k => k = w.heap.size + 1 + 1) w8 w9 := by rw [hw9]; exact Chg.setCell _ _ _ _ rfl
          refine ⟨by rw [hw9]; exact cell_in (setCell_head g8 0 _) rfl, s8.chg hc9 fun k hk e => ?_, belowChg hbl hc9 hbl.size fun k hk _ => by omega⟩
          subst e
          obtain ⟨_, _, cur, fz, hh⟩ := s8.vb hk
          rw [g8] at hh
          injection hh with hh
          injection hh with _ hh _
          exact absurd hh (by decide))
        have HW9 := Lib.hid hw9
        clear hw9 g8 s8 hbl HM5
        go_wp2_with fail
        rw [← HW9.out]
        refine bodyPost_ret (v := .slice a8 (rangeT (flatN Ns) (rfN n a) (rtN n b)).length c8) (by have h1 := HR.out.1; simp [results, Tryd.results19, go_sem, h1]) rfl ⟨⟨_, rfl, ?_⟩, HR.out.2.2⟩
        exact HR.out.2.1
    · have hmx : max (a + (n : Int)) 0 = 0 := by omega
      by_cases hb0 : 0 ≤ b
      · have db : decide (b < 0) = false := decide_eq_false (by omega)
        obtain ⟨w5, hw5⟩ : ∃ w5, w5 = (w3.setCell ⟨w.heap.size, 0, none⟩ (.int .i64 0)) := ⟨_, rfl⟩
        have HM5 := Lib.hid (HM.out 0 b w5 (by rw [hw5]; exact (Chg.setCell (fun k => k = w.heap.size ∨ k = w.heap.size + 1) w3 ⟨w.heap.size, 0, none⟩ _ (.inl rfl))) (by rw [hw5]; exact setCell_head HE.out.1 0 _) (by rw [hw5]; exact (Chg.setCell (fun k => k = w.heap.size) w3 ⟨w.heap.size, 0, none⟩ _ rfl).keep HE.out.2.1 (by omega)) (by unfold rfN; rw [if_pos (by omega)]; omega) (by unfold rtN; rw [if_neg (by omega)]))
        have HW5 := Lib.hid hw5
        clear hw5 HM
        go_enter Tryd.func19, Tryd.ntmps19
        go_upto_region 1 with (fail)
        rw [← HW3.out]
        go_wp2_with fail
        refine HL.out.mono ?_
        rintro e w' ⟨rfl, rfl⟩
        go_upto_region 6 with (fail)
        rw [← HW5.out]
        go_wp2_with fail
        refine HM5.out.mono ?_
        rintro e w8 ⟨⟨v, rfl⟩, hbl, v8, g8, s8⟩
        obtain ⟨a8, c8, rfl, _⟩ := s8.arg
        have y8 := cell_in g8 (i := 0) rfl
        have z8 := frozen_in g8 0
        obtain ⟨w9, hw9⟩ : ∃ w9, w9 = w8.setCell ⟨w.heap.size + 1 + 1, 0, none⟩ (.slice a8 (rangeT (flatN Ns) (rfN n a) (rtN n b)).length c8) := ⟨_, rfl⟩
        have HR := Lib.hid (show w9.cell? ⟨w.heap.size + 1 + 1, 0, none⟩ = some (.slice a8 (rangeT (flatN Ns) (rfN n a) (rtN n b)).length c8) ∧ SliceIs w9 w.heap.size 9 (.slice a8 (rangeT (flatN Ns) (rfN n a) (rtN n b)).length c8) (rangeT (flatN Ns) (rfN n a) (rtN n b)).length ((rangeT (flatN Ns) (rfN n a) (rtN n b)).map strV) ∧ Below w.heap.size w w9 from by
          have hc9 : Chg (fun k => k = w.heap.size + 1 + 1) w8 w9 := by rw [hw9]; exact Chg.setCell _ _ _ _ rfl
          refine ⟨by rw [hw9]; exact cell_in (setCell_head g8 0 _) rfl, s8.chg hc9 fun k hk e => ?_, belowChg hbl hc9 hbl.size fun k hk _ => by omega⟩
          subst e
          obtain ⟨_, _, cur, fz, hh⟩ := s8.vb hk
          rw [g8] at hh
          injection hh with hh
          injection hh with _ hh _
          exact absurd hh (by decide))
        have HW9 := Lib.hid hw9
        clear hw9 g8 s8 hbl HM5
        go_wp2_with fail
        rw [← HW9.out]
        refine bodyPost_ret (v := .slice a8 (rangeT (flatN Ns) (rfN n a) (rtN n b)).length c8) (by have h1 := HR.out.1; simp [results, Tryd.results19, go_sem, h1]) rfl ⟨⟨_, rfl, ?_⟩, HR.out.2.2⟩
        exact HR.out.2.1
      · have db : decide (b < 0) = true := decide_eq_true (by omega)
        obtain ⟨w5, hw5⟩ : ∃ w5, w5 = ((w3.setCell ⟨w.heap.size, 0, none⟩ (.int .i64 0)).setCell ⟨w.heap.size + 1, 0, none⟩ (.int .i64 (b + (n : Int)))) := ⟨_, rfl⟩
        have HM5 := Lib.hid (HM.out 0 (b + (n : Int)) w5 (by rw [hw5]; exact Chg.trans (Chg.setCell (fun k => k = w.heap.size ∨ k = w.heap.size + 1) w3 ⟨w.heap.size, 0, none⟩ _ (.inl rfl)) (Chg.setCell (fun k => k = w.heap.size ∨ k = w.heap.size + 1) (w3.setCell ⟨w.heap.size, 0, none⟩ (.int .i64 0)) ⟨w.heap.size + 1, 0, none⟩ _ (.inr rfl)) fun k hk _ => hk) (by rw [hw5]; exact (Chg.setCell (fun k => k = w.heap.size + 1) (w3.setCell ⟨w.heap.size, 0, none⟩ (.int .i64 0)) ⟨w.heap.size + 1, 0, none⟩ _ rfl).keep (setCell_head HE.out.1 0 _) (by omega)) (by rw [hw5]; exact setCell_head ((Chg.setCell (fun k => k = w.heap.size) w3 ⟨w.heap.size, 0, none⟩ _ rfl).keep HE.out.2.1 (by omega)) 0 _) (by unfold rfN; rw [if_pos (by omega)]; omega) (by unfold rtN; rw [if_pos (by omega)]))
        have HW5 := Lib.hid hw5
        clear hw5 HM
        go_enter Tryd.func19, Tryd.ntmps19
        go_upto_region 1 with (fail)
        rw [← HW3.out]
        go_wp2_with fail
        refine HL.out.mono ?_
        rintro e w' ⟨rfl, rfl⟩
        go_upto_region 6 with (fail)
        rw [← HW5.out]
        go_wp2_with fail
        refine HM5.out.mono ?_
        rintro e w8 ⟨⟨v, rfl⟩, hbl, v8, g8, s8⟩
        obtain ⟨a8, c8, rfl, _⟩ := s8.arg
        have y8 := cell_in g8 (i := 0) rfl
        have z8 := frozen_in g8 0
        obtain ⟨w9, hw9⟩ : ∃ w9, w9 = w8.setCell ⟨w.heap.size + 1 + 1, 0, none⟩ (.slice a8 (rangeT (flatN Ns) (rfN n a) (rtN n b)).length c8) := ⟨_, rfl⟩
        have HR := Lib.hid (show w9.cell? ⟨w.heap.size + 1 + 1, 0, none⟩ = some (.slice a8 (rangeT (flatN Ns) (rfN n a) (rtN n b)).length c8) ∧ SliceIs w9 w.heap.size 9 (.slice a8 (rangeT (flatN Ns) (rfN n a) (rtN n b)).length c8) (rangeT (flatN Ns) (rfN n a) (rtN n b)).length ((rangeT (flatN Ns) (rfN n a) (rtN n b)).map strV) ∧ Below w.heap.size w w9 from by
          have hc9 : Chg (fun k => k = w.heap.size + 1 + 1) w8 w9 := by rw [hw9]; exact Chg.setCell _ _ _ _ rfl
          refine ⟨by rw [hw9]; exact cell_in (setCell_head g8 0 _) rfl, s8.chg hc9 fun k hk e => ?_, belowChg hbl hc9 hbl.size fun k hk _ => by omega⟩
          subst e
          obtain ⟨_, _, cur, fz, hh⟩ := s8.vb hk
          rw [g8] at hh
          injection hh with hh
          injection hh with _ hh _
          exact absurd hh (by decide))
        have HW9 := Lib.hid hw9
        clear hw9 g8 s8 hbl HM5
        go_wp2_with fail
        rw [← HW9.out]
        refine bodyPost_ret (v := .slice a8 (rangeT (flatN Ns) (rfN n a) (rtN n b)).length c8) (by have h1 := HR.out.1; simp [results, Tryd.results19, go_sem, h1]) rfl ⟨⟨_, rfl, ?_⟩, HR.out.2.2⟩
        exact HR.out.2.1
end Go.Proofs.YtfbhddllimfdlaaDoor

/- law 8: lists of numbers compared; a row filled. -/
namespace Go.Proofs.YtfbhddllimfdlaaDoor
set_option linter.unusedVariables false
set_option linter.unusedSimpArgs false
open Go.RowKit
set_option maxHeartbeats 1600000 in
set_option maxRecDepth 100000 in
theorem sameInts_any (w : World) (a b : Option Addr) (n m ca cb : Nat) (xs ys : List Nat) (hn : xs.length = n) (hm : ys.length = m) (ha : ArgRow w a n ca fun i => .int .i64 (xs.getD i 0 : Nat)) (hb : ArgRow w b m cb fun i => .int .i64 (ys.getD i 0 : Nat)) (hs : n ≤ 1000000000 ∧ m ≤ 1000000000) :
    Calls Tryd.prog 65 #[.slice a n ca, .slice b m cb] w fun e w' => e = .returned (.bool (decide (xs = ys))) ∧ ∃ k, w' = w.drewN k := by
  have HA := Lib.hid ha
  have HB := Lib.hid hb
  have hac := ha.1
  have hbc := hb.1
  clear ha hb
  by_cases hnm : n = m
  · subst hnm
    have HL := Lib.hid (And.intro hn hm)
    have hne : ((n : Int) != (n : Int)) = false := by simp
    obtain ⟨r, hr⟩ : ∃ r, decide (xs = ys) = r := ⟨_, rfl⟩
    rw [hr]
    have HR := Lib.hid hr
    clear hn hm hr
    go_enter Tryd.func65, Tryd.ntmps65
    go_wp2_with fail
    go_loopw [5] (fun i wr => ∃ k : Nat, k ≤ n ∧ i = .int .i64 k ∧ (∃ d, wr = w.drewN d) ∧ Hid (xs.take k = ys.take k)) (fun i _ => n - (intOf i).toNat)
    case atStart => exact ⟨0, Nat.zero_le _, rfl, ⟨0, rfl⟩, Lib.hid (by simp)⟩
    case round =>
      obtain ⟨k, hk, rfl, ⟨d, rfl⟩, hI⟩ := hrel
      by_cases hlt : k < n
      · obtain ⟨ab, ao, rfl, hca⟩ := HA.out.2.resolve_left (by omega)
        obtain ⟨bb, bo, rfl, hcb⟩ := HB.out.2.resolve_left (by omega)
        have c1 : (w.drewN d).cell? ⟨ab, ao + k, none⟩ = some (.int .i64 (xs.getD k 0 : Nat)) := hca k hlt
        have c2 : (w.drewN d).cell? ⟨bb, bo + k, none⟩ = some (.int .i64 (ys.getD k 0 : Nat)) := hcb k hlt
        have hkx : k < xs.length := by rw [HL.out.1]; exact hlt
        have hky : k < ys.length := by rw [HL.out.2]; exact hlt
        have HNx := Lib.hid (show xs.getD k 0 = ys.getD k 0 → xs.take (k + 1) = ys.take (k + 1) from fun h => by
          rw [List.take_succ_eq_append_getElem hkx, List.take_succ_eq_append_getElem hky, hI.out]
          simp only [List.getD, List.getElem?_eq_getElem hkx, List.getElem?_eq_getElem hky, Option.getD_some] at h
          rw [h])
        have HNo := Lib.hid (show xs.getD k 0 ≠ ys.getD k 0 → r = false from fun h => by
          rw [← HR.out]; exact decide_eq_false (fun e => h (by rw [e])))
        obtain ⟨X1, f, hX1, hf, hF⟩ := classOf (fun x => x.cell? ⟨ab, ao + k, none⟩ = some (.int .i64 (xs.getD k 0 : Nat)) ∧ x.cell? ⟨bb, bo + k, none⟩ = some (.int .i64 (ys.getD k 0 : Nat))) ⟨c1, c2⟩
        have HF := Lib.hid (hF (w.drewN d).drew ⟨c1, c2⟩)
        generalize xs.getD k 0 = x at *
        generalize ys.getD k 0 = y at *
        have hf1 := fun x => (hf x).1
        have hf2 := fun x => (hf x).2
        clear hF hf hca hcb c1 c2 hI
        by_cases hxy : x = y
        · have hq : ((x : Int) != (y : Int)) = false := by rw [hxy]; simp
          have HXY := Lib.hid (HNx.out hxy)
          clear hxy
          go_wp2_with fail
          refine wp_region_text ⟨[], [], 9⟩ (fun w' => ∃ x : X1, w' = f x) (by kernel_rfl) (by kernel_rfl) HF.out ?_
          refine wpC_seg false (HF.out) 9 0 _ _ (by rfl) (by rfl) ?_
          simp only [List.take_succ_cons, List.take_zero, List.drop_succ_cons, List.drop_zero, Bool.false_eq_true, if_false, Nat.zero_add, Nat.reduceAdd]
          repeat (go_big_quiet_step (fail))
          refine wpQuiet_nil ?_
          refine wpC_nil ?_
          clear hf1 hf2 hX1 HF
          go_wp2_with fail
          go_roundw
          case rel => exact ⟨k + 1, by omega, by go_num, ⟨d + 1, rfl⟩, HXY⟩
          case measure => simp [intOf]; omega
        · have hq : ((x : Int) != (y : Int)) = true := by rw [bne_iff_ne]; omega
          have HRf := Lib.hid (HNo.out hxy)
          clear hxy
          go_wp2_with fail
          refine wp_region_text ⟨[], [], 9⟩ (fun w' => ∃ x : X1, w' = f x) (by kernel_rfl) (by kernel_rfl) HF.out ?_
          refine wpC_seg false (HF.out) 9 0 _ _ (by rfl) (by rfl) ?_
          simp only [List.take_succ_cons, List.take_zero, List.drop_succ_cons, List.drop_zero, Bool.false_eq_true, if_false, Nat.zero_add, Nat.reduceAdd]
          repeat (go_big_quiet_step (fail))
          refine wpQuiet_nil ?_
          refine wpC_nil ?_
          clear hf1 hf2 hX1 HF
          go_wp2_with fail
          go_ret
          exact ⟨ret1 (by rw [HRf.out]; rfl), d + 1, rfl⟩
      · obtain rfl : k = n := by omega
        have HRt := Lib.hid (show r = true by
          have h := hI.out
          rw [List.take_of_length_le (by have := HL.out.1; omega), List.take_of_length_le (by have := HL.out.2; omega)] at h
          rw [← HR.out]; exact decide_eq_true h)
        clear hI
        go_wp2_with fail
        go_ret
        exact ⟨ret1 (by rw [HRt.out]; rfl), d, rfl⟩
  · have hne : ((n : Int) != (m : Int)) = true := by simp only [bne_iff_ne, ne_eq]; omega
    have hr : decide (xs = ys) = false := decide_eq_false (fun e => hnm (by rw [← hn, ← hm, e]))
    rw [hr]
    go_enter Tryd.func65, Tryd.ntmps65
    go_wp2_with fail
    go_ret
    exact ⟨rfl, 0, rfl⟩
end Go.Proofs.YtfbhddllimfdlaaDoor

/- law 8: a row filled. -/
namespace Go.Proofs.YtfbhddllimfdlaaDoor
set_option linter.unusedVariables false
set_option linter.unusedSimpArgs false
open Go.RowKit
/-- What the packs have behind so many inserts at the end. -/
def fillL : Nat → List Nat
  | 0 => []
  | k + 1 => insL (fillL k) k
set_option maxHeartbeats 1600000 in
set_option maxRecDepth 100000 in
theorem filledQ_any {w : World} (hl : Laid w) (a : Option Addr) (n cap : Nat) (zs : List ByteArray) (hlen : zs.length = n) (ha : ArgRow w a n cap fun i => .string (zs.getD i ByteArray.empty)) (ht : totalT zs ≤ 1048576) :
    Calls Tryd.prog 17 #[.slice a n cap] w fun e w' => (∃ q, e = .returned (.tuple #[pv q, .bool (fitsT zs)]) ∧ (fitsT zs = true → ∃ F, QuickL w' q F zs (fillL n) ∧ ∀ k, F k → w.heap.size ≤ k)) ∧ Below w.heap.size w w' := by
  have hac := ha.1
  have HA := Lib.hid ha
  have HLn := Lib.hid hlen
  have HT := Lib.hid ht
  have HLd := Lib.hid hl
  have hn : n ≤ 1048576 := by unfold totalT at ht; omega
  have HN := Lib.hid (quickNew w)
  clear ha hlen ht hl
  go_enter Tryd.func17, Tryd.ntmps17
  go_wp2_with fail
  refine HN.out.mono ?_
  rintro e w1 ⟨rfl, q1, b1⟩
  have HQ := Lib.hid (And.intro q1 b1)
  clear q1 b1 HN
  go_wp2_with fail
  go_loopw [5] (fun i wr => ∃ k : Nat, k ≤ n ∧ i = .int .i64 k ∧ Hid ((∃ F, QuickL wr w.heap.size F (zs.take k) (fillL k) ∧ ∀ k, F k → w.heap.size ≤ k) ∧ Below w.heap.size w wr ∧ ∀ s ∈ zs.take k, s.size ≤ 65536)) (fun i _ => n - (intOf i).toNat)
  case atStart => exact ⟨0, Nat.zero_le _, rfl, Lib.hid ⟨⟨_, by simpa [fillL] using HQ.out.1, fun k hk => by omega⟩, HQ.out.2, by simp⟩⟩
  case round =>
    obtain ⟨k, hk, rfl, hI⟩ := hrel
    by_cases hlt : k < n
    · obtain ⟨b, o, hb, hc⟩ := HA.out.2.resolve_left (by omega)
      subst hb
      have hcell : w.cell? ⟨b, o + k, none⟩ = some (.string (zs.getD k ByteArray.empty)) := hc k hlt
      have hkl : k < zs.length := by rw [HLn.out]; exact hlt
      have hcell' : wr.cell? ⟨b, o + k, none⟩ = some (.string (zs.getD k ByteArray.empty)) := by rw [hI.out.2.1.cell (World.block_lt_of_cell? w _ hcell)]; exact hcell
      obtain ⟨⟨F, hP, hF⟩, hB, hE⟩ := hI.out
      have hmem : zs.getD k ByteArray.empty ∈ zs := by simp [List.getD, hkl]
      have hys : (zs.getD k ByteArray.empty).size ≤ 1048576 := by have := total_mem hmem; have := HT.out; omega
      have HIn := Lib.hid (quickInsertL HLd.out hB hB.size hP hF (k : Int) (by omega) (zs.getD k ByteArray.empty) (by omega))
      have hlk : (zs.take k).length = k := by rw [List.length_take]; omega
      have htk : zs.take (k + 1) = zs.take k ++ [zs.getD k ByteArray.empty] := by rw [List.take_succ_eq_append_getElem hkl]; simp [List.getD, hkl]
      by_cases hy : (zs.getD k ByteArray.empty).size ≤ 65536
      · have hall : ∀ s ∈ zs.take (k + 1), s.size ≤ 65536 := fun s hs => by
          rw [htk, List.mem_append, List.mem_singleton] at hs
          rcases hs with hs | rfl
          · exact hE s hs
          · exact hy
        have hins : insQ (zs.take k) k (zs.getD k ByteArray.empty) = (0, zs.take (k + 1)) := by
          unfold insQ
          rw [hlk, if_neg (by omega), if_neg (by omega), htk]
          rw [Int.toNat_natCast, List.take_of_length_le (by omega), List.drop_of_length_le (by omega), List.append_nil]
        rw [hins, if_pos rfl, Int.toNat_natCast] at HIn
        have HNx := Lib.hid (show ∀ w', (∃ F', QuickL w' w.heap.size F' (zs.take (k + 1)) (insL (fillL k) k) ∧ Fresh wr F F') → Chg F wr w' → (∃ F, QuickL w' w.heap.size F (zs.take (k + 1)) (fillL (k + 1)) ∧ ∀ k, F k → w.heap.size ≤ k) ∧ Below w.heap.size w w' ∧ ∀ s ∈ zs.take (k + 1), s.size ≤ 65536 from fun w' ⟨F', h1, h2⟩ hc =>
          ⟨⟨F', h1, fun j hj => (h2 j hj).elim (hF j) fun h => Nat.le_trans hB.size h⟩, belowChg hB hc hB.size fun j hj _ => hF j hj, hall⟩)
        clear hI hP hF hB hE hins hall htk hcell hc hlk hmem
        generalize zs.getD k ByteArray.empty = y at *
        go_wp2_with fail
        refine HIn.out.mono ?_
        rintro e w2 ⟨rfl, h1, h2⟩
        have HS := Lib.hid (HNx.out w2 h1 h2)
        clear h1 h2 HIn HNx
        go_wp2_with fail
        go_roundw
        case rel => exact ⟨k + 1, by omega, by go_num, HS⟩
        case measure => simp [intOf]; omega
      · have hins : insQ (zs.take k) k (zs.getD k ByteArray.empty) = (3, zs.take k) := by
          unfold insQ
          rw [hlk, if_neg (by omega), if_pos (by omega)]
        rw [hins, if_neg (by simp)] at HIn
        have hno : fitsT zs = false := decide_eq_false fun h => hy (h _ hmem)
        have HB := Lib.hid (show ∀ w', Chg F wr w' → Below w.heap.size w w' from fun w' hc => belowChg hB hc hB.size fun j hj _ => hF j hj)
        have HNo := Lib.hid hno
        clear hI hP hF hB hE hins htk hcell hc hlk hmem hno
        generalize zs.getD k ByteArray.empty = y at *
        go_wp2_with fail
        refine HIn.out.mono ?_
        rintro e w2 ⟨rfl, h1, h2⟩
        have HS := Lib.hid (HB.out w2 h2)
        clear h1 h2 HIn
        go_wp2_with fail
        go_ret2
        exact ⟨⟨w.heap.size, by rw [HNo.out]; rfl, fun h => by rw [HNo.out] at h; cases h⟩, HS.out⟩
    · obtain rfl : k = n := by omega
      have HS := Lib.hid (show (∃ F, QuickL wr w.heap.size F zs (fillL k) ∧ ∀ k, F k → w.heap.size ≤ k) ∧ Below w.heap.size w wr ∧ fitsT zs = true by
        obtain ⟨h1, h2, h3⟩ := hI.out
        rw [List.take_of_length_le (by have := HLn.out; omega)] at h1 h3
        exact ⟨h1, h2, decide_eq_true h3⟩)
      clear hI
      go_wp2_with fail
      go_ret2
      exact ⟨⟨w.heap.size, by rw [HS.out.2.2]; rfl, fun _ => HS.out.1⟩, HS.out.2.1⟩
/-- What the packs have, told. -/
theorem quickPacks {w : World} {q : Nat} {F : Nat → Prop} {L : List ByteArray} {ls : List Nat} (h : QuickL w q F L ls) (hn : L.length ≤ 100000000) :
    Calls Tryd.prog 24 #[pv q] w fun e w' => (∃ v, e = .returned v ∧ SliceIs w' w.heap.size 3 v ls.length (ls.map fun n => .int .i64 (n : Nat))) ∧ Below w.heap.size w w' := by
  obtain ⟨Ns, h1, h2, h3, rfl, h4⟩ := h
  have hlen : Ns.length ≤ (flatN Ns).length := by
    clear h1 h3 h4
    induction Ns with
    | nil => simp
    | cons u l ih =>
      have := ih fun x hx => h2 x (by simp [hx])
      have h5 := List.length_pos_iff.2 (h2 u (by simp)).1
      rw [flat_cons, List.length_append, List.length_cons]
      omega
  have := packs_any h1 (by rw [h3] at hlen; omega)
  have e1 : (lensN Ns).length = Ns.length := by simp [lensN]
  have e2 : (lensN Ns).map (fun n => Value.int .i64 (n : Nat)) = Ns.map lenV := by simp [lensN, lenV, Function.comp_def]
  rw [e1, e2]
  exact this
end Go.Proofs.YtfbhddllimfdlaaDoor

/- law 8: the texts of alive. -/
namespace Go.Proofs.YtfbhddllimfdlaaDoor
set_option linter.unusedVariables false
set_option linter.unusedSimpArgs false
open Go.RowKit
def itoaB (n : Nat) : ByteArray := ⟨(Lib.itoa n).toArray⟩
def itoaT (k : Nat) : List ByteArray := (List.range k).map itoaB
theorem itoaT_succ (k : Nat) : itoaT (k + 1) = itoaT k ++ [itoaB k] := by unfold itoaT; rw [List.range_succ, List.map_append]; rfl
def dig1 (n : Nat) : ByteArray := if n < 10 then ⟨#[UInt8.ofNat (48 + n)]⟩ else ⟨#[UInt8.ofNat (48 + n / 10), UInt8.ofNat (48 + n % 10)]⟩
theorem itoaB_small (n : Nat) (h : n < 100) : itoaB n = dig1 n := by
  unfold itoaB dig1 Lib.itoa
  rw [if_neg (by omega), Int.toNat_natCast, Lib.decDigits]
  by_cases h1 : n < 10
  · rw [dif_pos h1, if_pos h1]
  · rw [dif_neg h1, if_neg h1, Lib.decDigits, dif_pos (by omega)]
    rfl
theorem itoaT_33 : itoaT 33 = (List.range 33).map dig1 := by
  unfold itoaT
  apply List.map_congr_left
  intro n hn
  exact itoaB_small n (by have := List.mem_range.1 hn; omega)
theorem fill_33 : fillL 33 = [16, 17] := by decide
theorem alive8_total : totalT (itoaT 33) ≤ 1048576 := by rw [itoaT_33]; decide
theorem alive8_fits : fitsT (itoaT 33) = true := by rw [itoaT_33]; decide
theorem alive8_len : (itoaT 33).length = 33 := by simp [itoaT]
theorem alive8_get : qgetV (itoaT 33) (-1) = .tuple #[.string ⟨#[51, 50]⟩, .bool true] := by rw [itoaT_33]; rfl
theorem alive8_range : rangeT (itoaT 33) (rfN 33 30) (rtN 33 99) = [⟨#[51, 48]⟩, ⟨#[51, 49]⟩, ⟨#[51, 50]⟩] := by rw [itoaT_33]; decide
theorem alive8_ins (s : ByteArray) : insQ (itoaT 33) 40 s = (1, itoaT 33) := by unfold insQ; rw [alive8_len, if_pos (by omega)]
theorem alive8_set (s : ByteArray) : setQ (itoaT 33) 40 s = (6, itoaT 33) := by unfold setQ; rw [alive8_len, if_pos (by decide)]
set_option maxHeartbeats 6400000 in
set_option maxRecDepth 100000 in
theorem alive8_any {w : World} (hl : Laid w) : Calls Tryd.prog 15 #[] w fun e w' => e = .returned (.bool true) ∧ Below w.heap.size w w' := by
  have HLd := Lib.hid (fun w' (hb : Below w.heap.size w w') => hl.below hb)
  clear hl
  go_enter Tryd.func15, Tryd.ntmps15
  go_wp2_with fail
  go_loopw [1, 2] (fun l i wr => ∃ k : Nat, k ≤ 33 ∧ i = .int .i64 k ∧ Hid (SliceIs wr w.heap.size 9 l k ((itoaT k).map strV) ∧ Below w.heap.size w wr)) (fun _ i _ => 33 - (intOf i).toNat)
  case atStart => exact ⟨0, by omega, rfl, Lib.hid ⟨SliceIs.nil _ _ _, Below.refl _ _⟩⟩
  case round =>
    obtain ⟨k, hk, rfl, hI⟩ := hrel
    obtain ⟨al, cl, rfl, hAl⟩ := texts_of_slice hI.out.1
    by_cases hlt : k < 33
    · have hd : decide ((k : Int) < 33) = true := decide_eq_true (by omega)
      have HIt := Lib.hid (Tryd.strconv_Itoa (k : Int) (by omega) (by omega) wr (HLd.out wr hI.out.2).tab)
      clear hAl
      go_wp2_with fail
      refine HIt.out.mono ?_
      rintro e w2 ⟨rfl, j, os, hw2⟩
      have b2 : Below wr.heap.size wr w2 := by rw [hw2]; exact Lib.below_grow _ wr (Nat.le_refl _) j os
      obtain ⟨i0, g1, g2, g3, g4⟩ := info_parts info_str
      obtain ⟨v3, w3, hr, s3, b3⟩ := run_append_one (P := Tryd.prog) (t := 35) (ty := 35) Tryd.underlying35 g1 g2 g3 g4 rfl (hI.out.1.below b2) (Nat.le_trans hI.out.2.size b2.size) (.string (itoaB k)) rfl (by unfold maxLen; omega) (by omega)
      obtain ⟨a3, c3, rfl, _⟩ := s3.arg
      have HR := Lib.hid (show (Builtin.append_ #[35, 35] 35 #[.slice al k cl, .slice (some ⟨w2.heap.size, 0, none⟩) 1 1]).run Tryd.prog (w2.alloc (.cells #[.string ⟨(Lib.itoa (k : Int)).toArray⟩] 9)) = .ok (.slice a3 (k + 1) c3) w3 from hr)
      have HS := Lib.hid (show SliceIs w3 w.heap.size 9 (.slice a3 (k + 1) c3) (k + 1) ((itoaT (k + 1)).map strV) ∧ Below w.heap.size w w3 from ⟨by rw [itoaT_succ, List.map_append]; exact s3, (hI.out.2.trans (b2.mono hI.out.2.size)).trans b3⟩)
      clear hr s3 b3 hw2 b2 hI HIt g1 g2 g3 g4
      go_wp2_with (at_builtin; refine wpList_append_run rfl rfl HR.out ?_)
      go_roundw
      case rel => exact ⟨k + 1, by omega, by go_num, HS⟩
      case measure => simp [intOf]; omega
    · obtain rfl : k = 33 := by omega
      have HFi := Lib.hid (filledQ_any (HLd.out wr hI.out.2) al 33 cl (itoaT 33) alive8_len hAl alive8_total)
      rw [alive8_fits, fill_33] at HFi
      have HB := Lib.hid hI.out.2
      clear hAl hI
      go_wp2_with fail
      refine HFi.out.mono ?_
      rintro e w2 ⟨⟨q, rfl, h2⟩, b2⟩
      obtain ⟨F, hQ, hF⟩ := h2 trivial
      have B2 := Lib.hid (HB.out.trans (b2.mono HB.out.size))
      have HQ := Lib.hid hQ
      have KF := Lib.hid (show ∀ k, F k → w.heap.size ≤ k from fun k hk => Nat.le_trans HB.out.size (hF k hk))
      have HG := Lib.hid (quickGet hQ.toF (HLd.out _ B2.out) (by rw [alive8_len]; omega) (-1) (by omega))
      rw [alive8_get] at HG
      clear h2 hQ hF b2 HFi
      go_wp2_with fail
      refine HG.out.mono ?_
      rintro e w3 ⟨rfl, b3⟩
      have B3 := Lib.hid (B2.out.trans (b3.mono B2.out.size))
      have HQ3 := Lib.hid (HQ.out.below b3)
      have HLn := Lib.hid (quickLen HQ3.out.toF)
      rw [alive8_len] at HLn
      have HPk := Lib.hid (quickPacks HQ3.out (by rw [alive8_len]; omega))
      clear b3 HG
      go_wp2_with fail
      refine HLn.out.mono ?_
      rintro e w' ⟨rfl, rfl⟩
      go_wp2_with fail
      refine HPk.out.mono ?_
      rintro e w4 ⟨⟨v4, rfl, s4⟩, b4⟩
      obtain ⟨a4, c4, rfl, hA4⟩ := s4.arg
      have B4 := Lib.hid (B3.out.trans (b4.mono B3.out.size))
      have HQ4 := Lib.hid (HQ3.out.below b4)
      obtain ⟨w5, hw5⟩ : ∃ w5, w5 = w4.alloc (.cells #[.int .i64 16, .int .i64 17] 3) := ⟨_, rfl⟩
      have hb5 : Below w4.heap.size w4 w5 := by rw [hw5]; exact (Below.refl _ _).alloc (Nat.le_refl _) _
      have HSi := Lib.hid (sameInts_any w5 a4 (some ⟨w4.heap.size, 0, none⟩) 2 2 c4 2 [16, 17] [16, 17] rfl rfl (by
        have h := hA4.belowT hb5
        refine ⟨h.1, h.2.imp id fun ⟨b, o, e, hc⟩ => ⟨b, o, e, fun i hi => ?_⟩⟩
        rw [hc i hi]
        match i, hi with
        | 0, _ => rfl
        | 1, _ => rfl) ⟨Nat.le_refl _, .inr ⟨w4.heap.size, 0, rfl, fun i hi => by
        rw [hw5]
        refine cell_in (heap_new _ _) ?_
        match i, hi with
        | 0, _ => rfl
        | 1, _ => rfl⟩⟩ (by omega))
      rw [decide_eq_true rfl] at HSi
      have B5 := Lib.hid (B4.out.trans (hb5.mono B4.out.size))
      have HQ5 := Lib.hid (HQ4.out.below hb5)
      have HW5 := Lib.hid hw5
      clear s4 b4 hA4 hw5 hb5 HPk
      go_wp2_with fail
      rw [← HW5.out]
      refine HSi.out.mono ?_
      rintro e w6 ⟨rfl, k6, rfl⟩
      have hb6 : Below w5.heap.size w5 (w5.drewN k6) := belowN (Below.refl _ _) k6
      have B6 := Lib.hid (B5.out.trans (hb6.mono B5.out.size))
      have HQ6 := Lib.hid (HQ5.out.below hb6)
      have HRg := Lib.hid (quickRange (HLd.out _ B6.out) HQ6.out.toF (by rw [alive8_len]; omega) 30 99 (by omega) (by omega))
      rw [alive8_len, alive8_range] at HRg
      clear hb6 HSi
      obtain ⟨w6, hw6⟩ : ∃ w6, w6 = w5.drewN k6 := ⟨_, rfl⟩
      rw [← hw6] at B6 HQ6 HRg ⊢
      clear hw6
      go_wp2_with fail
      refine HRg.out.mono ?_
      rintro e w7 ⟨⟨v7, rfl, s7⟩, b7⟩
      obtain ⟨a7, c7, rfl, hA7⟩ := texts_of_slice s7
      have B7 := Lib.hid (B6.out.trans (b7.mono B6.out.size))
      have HQ7 := Lib.hid (HQ6.out.below b7)
      obtain ⟨w8, hw8⟩ : ∃ w8, w8 = w7.alloc (.cells #[.string ⟨#[51, 48]⟩, .string ⟨#[51, 49]⟩, .string ⟨#[51, 50]⟩] 9) := ⟨_, rfl⟩
      have hb8 : Below w7.heap.size w7 w8 := by rw [hw8]; exact (Below.refl _ _).alloc (Nat.le_refl _) _
      have HSt := Lib.hid (sameTexts_any w8 a7 (some ⟨w7.heap.size, 0, none⟩) 3 3 c7 3 [⟨#[51, 48]⟩, ⟨#[51, 49]⟩, ⟨#[51, 50]⟩] [⟨#[51, 48]⟩, ⟨#[51, 49]⟩, ⟨#[51, 50]⟩] rfl rfl (hA7.belowT hb8) ⟨Nat.le_refl _, .inr ⟨w7.heap.size, 0, rfl, fun i hi => by
        rw [hw8]
        refine cell_in (heap_new _ _) ?_
        match i, hi with
        | 0, _ => rfl
        | 1, _ => rfl
        | 2, _ => rfl⟩⟩ (by omega))
      rw [decide_eq_true rfl] at HSt
      have B8 := Lib.hid (B7.out.trans (hb8.mono B7.out.size))
      have HQ8 := Lib.hid (HQ7.out.below hb8)
      have HW8 := Lib.hid hw8
      clear s7 b7 hA7 hw8 hb8 HRg
      go_wp2_with fail
      rw [← HW8.out]
      refine HSt.out.mono ?_
      rintro e w9 ⟨rfl, k9, rfl⟩
      have hb9 : Below w8.heap.size w8 (w8.drewN k9) := belowN (Below.refl _ _) k9
      have B9 := Lib.hid (B8.out.trans (hb9.mono B8.out.size))
      have HQ9 := Lib.hid (HQ8.out.below hb9)
      have HIn := Lib.hid (quickInsert (HLd.out _ (Below.refl _ _)) B9.out B9.out.size HQ9.out.toF KF.out 40 (by omega) ⟨#[120]⟩ (by decide))
      rw [alive8_ins] at HIn
      clear hb9 HSt
      obtain ⟨w9, hw9⟩ : ∃ w9, w9 = w8.drewN k9 := ⟨_, rfl⟩
      rw [← hw9] at B9 HQ9 HIn ⊢
      clear hw9
      go_wp2_with fail
      refine HIn.out.mono ?_
      rintro e w10 ⟨rfl, ⟨F10, q10, f10⟩, c10⟩
      have B10 := Lib.hid (belowChg B9.out c10 B9.out.size fun k hk _ => KF.out k hk)
      have K10 := Lib.hid (show ∀ k, F10 k → w.heap.size ≤ k from fun k hk => (f10 k hk).elim (KF.out k) fun h => Nat.le_trans B9.out.size h)
      have HSe := Lib.hid (quickSet (HLd.out _ (Below.refl _ _)) B10.out B10.out.size q10 K10.out (by rw [alive8_len]; omega) 40 (by omega) ⟨#[120]⟩ (by decide))
      rw [alive8_set] at HSe
      clear q10 f10 c10 HIn
      go_wp2_with fail
      refine HSe.out.mono ?_
      rintro e w11 ⟨rfl, _, c11⟩
      have B11 := Lib.hid (belowChg B10.out c11 B10.out.size fun k hk _ => K10.out k hk)
      clear c11 HSe
      go_wp2_with fail
      go_ret
      exact ⟨rfl, B11.out⟩
end Go.Proofs.YtfbhddllimfdlaaDoor

/- quick: join. -/
namespace Go.Proofs.YtfbhddllimfdlaaDoor
set_option linter.unusedVariables false
set_option linter.unusedSimpArgs false
open Go.RowKit
set_option maxHeartbeats 1600000 in
set_option maxRecDepth 100000 in
theorem join_nil {w : World} (q : Nat) : Calls Tryd.prog 75 #[pv q, .pointer none] w fun e w' => e = .returned (.bool false) ∧ Below w.heap.size w w' := by
  obtain ⟨X1, f, hX1, hf, hF⟩ := classOf (fun y => True) (w := w.drew) trivial
  have H0 := Lib.hid (hF w.drew trivial)
  clear hf hF
  go_enter Tryd.func75, Tryd.ntmps75
  go_wp2_with fail
  refine wp_region_text ⟨[14, 22], [], 26⟩ (fun w' => ∃ y : X1, w' = f y) (by kernel_rfl) (by kernel_rfl) H0.out ?_
  refine wpC_seg false (H0.out) 14 0 _ _ (by rfl) (by rfl) ?_
  simp only [List.take_succ_cons, List.take_zero, List.drop_succ_cons, List.drop_zero, Bool.false_eq_true, if_false, Nat.zero_add, Nat.reduceAdd]
  repeat (go_big_quiet_step (fail))
  refine wpQuiet_nil ?_
  refine wpC_skip (by rfl) (by rfl) (fun _ => H0.out) ?_
  simp only [Act.put, List.setIfInBounds_toArray, List.set_cons_succ, List.set_cons_zero]
  refine wpC_seg false (H0.out) 7 15 _ _ (by rfl) (by rfl) ?_
  simp only [List.take_succ_cons, List.take_zero, List.drop_succ_cons, List.drop_zero, Bool.false_eq_true, if_false, Nat.zero_add, Nat.reduceAdd]
  repeat (go_big_quiet_step (fail))
  refine wpQuiet_nil ?_
  refine wpC_skip (by rfl) (by rfl) (fun _ => H0.out) ?_
  simp only [Act.put, List.setIfInBounds_toArray, List.set_cons_succ, List.set_cons_zero]
  refine wpC_seg false (H0.out) 3 23 _ _ (by rfl) (by rfl) ?_
  simp only [List.take_succ_cons, List.take_zero, List.drop_succ_cons, List.drop_zero, Bool.false_eq_true, if_false, Nat.zero_add, Nat.reduceAdd]
  repeat (go_big_quiet_step (fail))
  refine wpQuiet_nil ?_
  refine wpC_nil ?_
  go_wp2_with fail
  go_ret
  exact ⟨rfl, belowN (Below.refl _ _) 1⟩
set_option maxHeartbeats 3200000 in
set_option maxRecDepth 100000 in
/-- A node and the one behind it become one, if they are few. -/
theorem join_node {w0 w : World} (hl : Laid w0) (hb0 : Below w0.heap.size w0 w) (hN : w0.heap.size ≤ w.heap.size) {q : Nat} {A B : List Nd} {nd : Nd} {n : Int} (h : QRow w q (A ++ nd :: B) n) (kF : ∀ k, foot q (A ++ nd :: B) k → w0.heap.size ≤ k) (hg : Good (A ++ nd :: B)) :
    Calls Tryd.prog 75 #[pv q, pv nd.x] w fun e w' => ∃ b, e = .returned (.bool b) ∧ ((b = false ∧ Below w.heap.size w w') ∨
      (b = true ∧ ∃ v B' F', B = v :: B' ∧ nd.T.length + v.T.length ≤ 16 ∧ QRow w' q (A ++ ⟨nd.x, nd.p, F', nd.T ++ v.T⟩ :: B') n ∧ Fresh w nd.F F' ∧ Chg (foot q (A ++ nd :: B)) w w')) := by
  cases B with
  | nil =>
    have hx := h.node
    have c2 : ∀ w' : World, w'.heap[nd.x]? = w.heap[nd.x]? → w'.cell? ⟨nd.x, 2, none⟩ = some (.pointer none) := fun w' e => cell_in (e.trans hx) (i := 2) rfl
    obtain ⟨X1, f, hX1, hf, hF⟩ := classOf (fun y => y.cell? ⟨nd.x, 2, none⟩ = some (.pointer none)) (w := w.drew) (c2 _ rfl)
    have H0 := Lib.hid (hF w.drew (c2 _ rfl))
    clear hF c2 hx h kF hg
    go_enter Tryd.func75, Tryd.ntmps75
    go_wp2_with fail
    refine wp_region_text ⟨[14, 22], [], 26⟩ (fun w' => ∃ y : X1, w' = f y) (by kernel_rfl) (by kernel_rfl) H0.out ?_
    refine wpC_seg false (H0.out) 14 0 _ _ (by rfl) (by rfl) ?_
    simp only [List.take_succ_cons, List.take_zero, List.drop_succ_cons, List.drop_zero, Bool.false_eq_true, if_false, Nat.zero_add, Nat.reduceAdd]
    repeat (go_big_quiet_step (fail))
    refine wpQuiet_nil ?_
    refine wpC_skip (by rfl) (by rfl) (fun _ => H0.out) ?_
    simp only [Act.put, List.setIfInBounds_toArray, List.set_cons_succ, List.set_cons_zero]
    refine wpC_seg false (H0.out) 7 15 _ _ (by rfl) (by rfl) ?_
    simp only [List.take_succ_cons, List.take_zero, List.drop_succ_cons, List.drop_zero, Bool.false_eq_true, if_false, Nat.zero_add, Nat.reduceAdd]
    repeat (go_big_quiet_step (fail))
    refine wpQuiet_nil ?_
    refine wpC_skip (by rfl) (by rfl) (fun _ => H0.out) ?_
    simp only [Act.put, List.setIfInBounds_toArray, List.set_cons_succ, List.set_cons_zero]
    refine wpC_seg false (H0.out) 3 23 _ _ (by rfl) (by rfl) ?_
    simp only [List.take_succ_cons, List.take_zero, List.drop_succ_cons, List.drop_zero, Bool.false_eq_true, if_false, Nat.zero_add, Nat.reduceAdd]
    repeat (go_big_quiet_step (fail))
    refine wpQuiet_nil ?_
    refine wpC_nil ?_
    go_wp2_with fail
    go_ret
    exact ⟨_, rfl, .inl ⟨rfl, belowN (Below.refl _ _) 1⟩⟩
  | cons v B =>
    have hx := h.node
    have hv : QRow w q ((A ++ [nd]) ++ v :: B) n := by simpa using h
    have hvx := hv.node
    have iu : nd ∈ A ++ nd :: v :: B := by simp
    have iv : v ∈ A ++ nd :: v :: B := by simp
    obtain ⟨X1, f, hX1, hf, hF⟩ := classOf (fun y => y.cell? ⟨nd.x, 2, none⟩ = some (pv v.x) ∧ y.cell? ⟨nd.x, 0, none⟩ = some (pv nd.p) ∧ y.cell? ⟨v.x, 0, none⟩ = some (pv v.p)) (w := w.drew) ⟨cell_in (show w.drew.heap[nd.x]? = _ from hx) (i := 2) rfl, cell_in (show w.drew.heap[nd.x]? = _ from hx) (i := 0) rfl, cell_in (show w.drew.heap[v.x]? = _ from hvx) (i := 0) rfl⟩
    have hf1 := fun y => (hf y).1
    have hf2 := fun y => (hf y).2.1
    have hf3 := fun y => (hf y).2.2
    have H0 := Lib.hid (hF w.drew ⟨cell_in (show w.drew.heap[nd.x]? = _ from hx) (i := 2) rfl, cell_in (show w.drew.heap[nd.x]? = _ from hx) (i := 0) rfl, cell_in (show w.drew.heap[v.x]? = _ from hvx) (i := 0) rfl⟩)
    have hbd : Below w.heap.size w w.drew := belowN (Below.refl _ _) 1
    have HL1 := Lib.hid (packLen ((h.packs nd iu).below hbd))
    have HL2 := Lib.hid (packLen ((h.packs v iv).below hbd))
    have hbd2 : Below w.heap.size w w.drew.drew := belowN (Below.refl _ _) 2
    have hx2 : w.drew.drew.heap[nd.x]? = some (nodeO nd.p (lstO none A) (hdO (v :: B) none)) := hx
    have hvx2 : w.drew.drew.heap[v.x]? = some (nodeO v.p (lstO none (A ++ [nd])) (hdO B none)) := hvx
    have H02 := Lib.hid (hF w.drew.drew ⟨cell_in hx2 (i := 2) rfl, cell_in hx2 (i := 0) rfl, cell_in hvx2 (i := 0) rfl⟩)
    have h1 := (hg nd iu).2
    have h2 := (hg v iv).2
    have ha := apart_mid.1 h.apart
    have HPr := Lib.hid (fun (h16 : nd.T.length + v.T.length ≤ 16) => pour_any hl (belowN hb0 2 : Below w0.heap.size w0 w.drew.drew) hN ((h.packs v iv).below hbd2) ((h.packs nd iu).below hbd2) (fun k hk hu => ha.2.2.2.1 v (by simp) k hu hk) (fun k hk => kF k (.inr ⟨v, iv, .inr hk⟩)) (fun k hk => kF k (.inr ⟨nd, iu, .inr hk⟩)) 0 (Nat.zero_le _)
      (by rw [List.drop_zero]; exact okl_few (fun s hs => (List.mem_append.1 hs).elim ((h.packs nd iu).ok.each s) ((h.packs v iv).ok.each s)) (by rw [List.length_append]; omega)))
    have HQ := Lib.hid (And.intro h (And.intro hbd2 (And.intro iu iv)))
    obtain ⟨n1, hn1⟩ : ∃ n1, nd.T.length = n1 := ⟨_, rfl⟩
    obtain ⟨n2, hn2⟩ : ∃ n2, v.T.length = n2 := ⟨_, rfl⟩
    rw [hn1] at HL1 h1 HPr ⊢
    rw [hn2] at HL2 h2 HPr
    by_cases h16 : n1 + n2 ≤ 16
    · have hd : decide ((16 : Int) < (n1 : Int) + (n2 : Int)) = false := decide_eq_false (by omega)
      have HP1 := Lib.hid (HPr.out h16)
      have HN := Lib.hid (And.intro hn1 hn2)
      clear hF hx hvx hx2 hvx2 h hv kF hg hb0 hN hl ha HPr hn1 hn2 iu iv hbd hbd2
      go_enter Tryd.func75, Tryd.ntmps75
      go_wp2_with fail
      refine wp_region_text ⟨[14, 22], [], 26⟩ (fun w' => ∃ y : X1, w' = f y) (by kernel_rfl) (by kernel_rfl) H0.out ?_
      refine wpC_seg false (H0.out) 14 0 _ _ (by rfl) (by rfl) ?_
      simp only [List.take_succ_cons, List.take_zero, List.drop_succ_cons, List.drop_zero, Bool.false_eq_true, if_false, Nat.zero_add, Nat.reduceAdd]
      repeat (go_big_quiet_step (fail))
      refine wpQuiet_nil ?_
      refine wpC_loud (by rfl) (by rfl) fun K hK => ?_
      go_wp2_with fail
      refine HL1.out.mono ?_
      rintro e w5 ⟨rfl, rfl⟩
      refine hK _ _ (fun _ => H0.out) ?_
      clear hK
      refine wpC_seg false (H0.out) 7 15 _ _ (by rfl) (by rfl) ?_
      simp only [List.take_succ_cons, List.take_zero, List.drop_succ_cons, List.drop_zero, Bool.false_eq_true, if_false, Nat.zero_add, Nat.reduceAdd]
      repeat (go_big_quiet_step (fail))
      refine wpQuiet_nil ?_
      refine wpC_loud (by rfl) (by rfl) fun K hK => ?_
      go_wp2_with fail
      refine HL2.out.mono ?_
      rintro e w5 ⟨rfl, rfl⟩
      refine hK _ _ (fun _ => H0.out) ?_
      clear hK
      refine wpC_seg false (H0.out) 3 23 _ _ (by rfl) (by rfl) ?_
      simp only [List.take_succ_cons, List.take_zero, List.drop_succ_cons, List.drop_zero, Bool.false_eq_true, if_false, Nat.zero_add, Nat.reduceAdd]
      repeat (go_big_quiet_step (fail))
      refine wpQuiet_nil ?_
      refine wpC_nil ?_
      go_wp2_with fail
      refine wp_region_text ⟨[11], [], 11⟩ (fun w' => ∃ y : X1, w' = f y) (by kernel_rfl) (by kernel_rfl) H02.out ?_
      refine wpC_seg false (H02.out) 11 0 _ _ (by rfl) (by rfl) ?_
      simp only [List.take_succ_cons, List.take_zero, List.drop_succ_cons, List.drop_zero, Bool.false_eq_true, if_false, Nat.zero_add, Nat.reduceAdd]
      repeat (go_big_quiet_step (fail))
      refine wpQuiet_nil ?_
      refine wpC_loud (by rfl) (by rfl) fun K hK => ?_
      go_wp2_with fail
      refine HP1.out.mono ?_
      rintro e w7 ⟨⟨v7, rfl⟩, ⟨Fv, Fu, pv', pu', fv, fu, hd7⟩, ch7⟩
      rw [List.drop_zero] at pu'
      have hq2 := HQ.out.1.below HQ.out.2.1
      have hq7 : QRow w7 q (A ++ ⟨nd.x, nd.p, Fu, nd.T ++ v.T⟩ :: ⟨v.x, v.p, Fv, v.T.take 0⟩ :: B) n := hq2.setPack2 (ch7.mono fun k hk _ => hk.symm) pu' pv' fu fv fun k a b => hd7 k b a
      have hq7' : QRow w7 q ((A ++ [⟨nd.x, nd.p, Fu, nd.T ++ v.T⟩]) ++ ⟨v.x, v.p, Fv, v.T.take 0⟩ :: B) n := by simpa using hq7
      have x7 : w7.cell? ⟨nd.x, 2, none⟩ = some (pv v.x) := cell_in hq7.node (i := 2) rfl
      have HU := Lib.hid (unlink_any hq7')
      have HF7 := Lib.hid (And.intro fu ch7)
      refine hK _ _ (fun h => absurd h (by decide)) ?_
      clear hK hq2 hq7 hq7' pv' pu' fv fu hd7 ch7
      refine wpC_nil ?_
      clear hf hf1 hf2 hf3 hX1 H0 H02 f X1
      go_wp2_with fail
      refine HU.out.mono ?_
      rintro e w8 ⟨⟨v8, rfl⟩, hq8, ch8⟩
      have HE := Lib.hid (And.intro hq8 ch8)
      clear hq8 ch8
      go_wp2_with fail
      go_ret
      refine ⟨_, rfl, .inr ⟨rfl, v, B, Fu, rfl, by rw [HN.out.2]; exact h16, by simpa using HE.out.1, HF7.out.1, ?_⟩⟩
      refine ((Chg.of_below (foot q (A ++ nd :: v :: B)) HQ.out.2.1).trans HF7.out.2 fun k hk _ => ?_).trans HE.out.2 fun k hk _ => ?_
      · rcases hk with hk | hk
        · exact .inr ⟨v, HQ.out.2.2.2, .inr hk⟩
        · exact .inr ⟨nd, HQ.out.2.2.1, .inr hk⟩
      · rcases hk with hk | ⟨u, hu, hk⟩
        · exact .inl hk
        · simp only [List.mem_append, List.mem_cons, List.not_mem_nil, or_false] at hu
          rcases hu with (hu | rfl) | hu
          · exact .inr ⟨u, by simp [hu], .inl hk⟩
          · exact .inr ⟨nd, HQ.out.2.2.1, .inl hk⟩
          · exact .inr ⟨u, by simp [hu], .inl hk⟩
    · have hd : decide ((16 : Int) < (n1 : Int) + (n2 : Int)) = true := decide_eq_true (by omega)
      clear hF hx hvx hx2 hvx2 h hv kF hg hb0 hN hl ha HPr hn1 hn2 iu iv hbd
      go_enter Tryd.func75, Tryd.ntmps75
      go_wp2_with fail
      refine wp_region_text ⟨[14, 22], [], 26⟩ (fun w' => ∃ y : X1, w' = f y) (by kernel_rfl) (by kernel_rfl) H0.out ?_
      refine wpC_seg false (H0.out) 14 0 _ _ (by rfl) (by rfl) ?_
      simp only [List.take_succ_cons, List.take_zero, List.drop_succ_cons, List.drop_zero, Bool.false_eq_true, if_false, Nat.zero_add, Nat.reduceAdd]
      repeat (go_big_quiet_step (fail))
      refine wpQuiet_nil ?_
      refine wpC_loud (by rfl) (by rfl) fun K hK => ?_
      go_wp2_with fail
      refine HL1.out.mono ?_
      rintro e w5 ⟨rfl, rfl⟩
      refine hK _ _ (fun _ => H0.out) ?_
      clear hK
      refine wpC_seg false (H0.out) 7 15 _ _ (by rfl) (by rfl) ?_
      simp only [List.take_succ_cons, List.take_zero, List.drop_succ_cons, List.drop_zero, Bool.false_eq_true, if_false, Nat.zero_add, Nat.reduceAdd]
      repeat (go_big_quiet_step (fail))
      refine wpQuiet_nil ?_
      refine wpC_loud (by rfl) (by rfl) fun K hK => ?_
      go_wp2_with fail
      refine HL2.out.mono ?_
      rintro e w5 ⟨rfl, rfl⟩
      refine hK _ _ (fun _ => H0.out) ?_
      clear hK
      refine wpC_seg false (H0.out) 3 23 _ _ (by rfl) (by rfl) ?_
      simp only [List.take_succ_cons, List.take_zero, List.drop_succ_cons, List.drop_zero, Bool.false_eq_true, if_false, Nat.zero_add, Nat.reduceAdd]
      repeat (go_big_quiet_step (fail))
      refine wpQuiet_nil ?_
      refine wpC_nil ?_
      go_wp2_with fail
      go_ret
      exact ⟨_, rfl, .inl ⟨rfl, belowN (Below.refl _ _) 1⟩⟩
end Go.Proofs.YtfbhddllimfdlaaDoor
