/- The row of the law QuickIsRow, and its card: for every input of at most 1048576 values and letters the Go function returns true and its arguments read as before, out of the walk quickIsRow_walk. The library's variables that the row lists hold what the program's text lays (the card's tie, given). -/
import Derived.Test.YtfbhddllimfdlaaDoorMQuickIsRow1
import Derived.WalkMore
import Derived.ScopeJumps
import Derived.Test.YtfbhddllimfdlaaDoorRows
import Derived.Test.YtfbhddllimfdlaaDoorMB2
import Derived.Test.YtfbhddllimfdlaaDoorMB1
import Derived.ChangeSame
import Derived.Lib.SmallJoins
import Derived.Deep.CutRange
import Derived.Deep.CutBlock
import Derived.Stop.LaidErr
import Derived.Lib.LaidTab
import Derived.LaidLaws
import Derived.Test.YtfbhddllimfdlaaDoorCards
import Derived.Test.YtfbhddllimfdlaaDoorTie
import Derived.WalkKit
import Derived.ProofKit
import Derived.OpenShut
import Derived.ShutString
import Derived.ChangeOld
import Derived.Below
import Derived.SizedLaws
import Derived.Laws.Cover2
import Derived.Deep.Slices
import Derived.Deep.SlicePairs
import Derived.SliceStrings
import Derived.JoinedCond
import Derived.Deep.DeepHandedRow
/- quick: what Delete keeps between its steps. -/
namespace Go.Proofs.YtfbhddllimfdlaaDoor
set_option linter.unusedVariables false
set_option linter.unusedSimpArgs false
open Go.RowKit
theorem ptrO_inj : ∀ {a b : Option Nat}, ptrO a = ptrO b → a = b
  | none, none, _ => rfl
  | some x, some y, h => by simp [ptrO] at h; rw [h]
  | none, some _, h => by simp [ptrO] at h
  | some _, none, h => by simp [ptrO] at h
theorem chain_len {w : World} : ∀ {l m : List Nd} {a a' : Option Nat}, Chain w a l none → Chain w a' m none → hdO l none = hdO m none → l.length = m.length
  | [], [], _, _, _, _, _ => rfl
  | u :: l, v :: m, a, a', h1, h2, h => by
    have hx : u.x = v.x := by simpa [hdO] using h
    have e := h1.1
    rw [hx, h2.1] at e
    have e2 := Option.some.inj e
    unfold nodeO at e2
    simp only [Obj.cells.injEq, Array.mk.injEq, List.cons.injEq, and_true] at e2
    have := chain_len h1.2 h2.2 (ptrO_inj e2.2.2.symm)
    simp [this]
  | [], _ :: _, _, _, _, _, h => by simp [hdO] at h
  | _ :: _, [], _, _, _, _, h => by simp [hdO] at h
theorem row_len {w : World} {q : Nat} {Ns Ms : List Nd} {n m : Int} (h1 : QRow w q Ns n) (h2 : QRow w q Ms m) : Ns.length = Ms.length := by
  refine chain_len h1.chain h2.chain (ptrO_inj ?_)
  have e := h1.head
  rw [h2.head] at e
  have e2 := Option.some.inj e
  unfold quickO at e2
  simp only [Obj.cells.injEq, Array.mk.injEq, List.cons.injEq, and_true] at e2
  exact e2.2.1.symm
open Classical in
/-- So many packs has the row. -/
noncomputable def lenQ (w : World) (q : Nat) : Nat := if h : ∃ k, ∃ Ns n, QRow w q Ns n ∧ Ns.length = k then h.choose else 0
theorem lenQ_eq {w : World} {q : Nat} {Ns : List Nd} {n : Int} (h : QRow w q Ns n) : lenQ w q = Ns.length := by
  have hex : ∃ k, ∃ Ns n, QRow w q Ns n ∧ Ns.length = k := ⟨_, Ns, n, h, rfl⟩
  unfold lenQ
  rw [dif_pos hex]
  obtain ⟨Ms, m, h2, e⟩ := hex.choose_spec
  rw [← e]
  exact row_len h2 h
theorem foot_set {w : World} {q : Nat} {A B : List Nd} {nd : Nd} {F' : Nat → Prop} {T' : List ByteArray} (hf : Fresh w nd.F F') : ∀ k, foot q (A ++ ⟨nd.x, nd.p, F', T'⟩ :: B) k → foot q (A ++ nd :: B) k ∨ w.heap.size ≤ k := by
  rintro k (hk | ⟨u, hu, hk⟩)
  · exact .inl (.inl hk)
  · simp only [List.mem_append, List.mem_cons] at hu
    rcases hu with hu | rfl | hu
    · exact .inl (.inr ⟨u, by simp [hu], hk⟩)
    · rcases hk with hk | hk
      · exact .inl (.inr ⟨nd, by simp, .inl hk⟩)
      · exact (hf k hk).imp (fun h => .inr ⟨nd, by simp, .inr h⟩) id
    · exact .inl (.inr ⟨u, by simp [hu], hk⟩)
theorem foot_sub {q : Nat} {A B : List Nd} {nd : Nd} : ∀ k, foot q (A ++ B) k → foot q (A ++ nd :: B) k := by
  rintro k (hk | ⟨u, hu, hk⟩)
  · exact .inl hk
  · exact .inr ⟨u, by simp only [List.mem_append, List.mem_cons] at hu ⊢; exact hu.imp id .inr, hk⟩
/-- Between two steps: the row tells G, its blocks are its own. -/
structure DoneI (w : World) (q : Nat) (Ns0 : List Nd) (G : List ByteArray) (N : Int) (Ns : List Nd) (W : World) : Prop where
  row : QRow W q Ns N
  good : Good Ns
  flat : flatN Ns = G
  ft : ∀ k, foot q Ns k → foot q Ns0 k ∨ w.heap.size ≤ k
  chg : Chg (foot q Ns0) w W
theorem DoneI.below {w : World} {q : Nat} {Ns0 Ns : List Nd} {G : List ByteArray} {N : Int} {W W' : World} (h : DoneI w q Ns0 G N Ns W) (hb : Below W.heap.size W W') : DoneI w q Ns0 G N Ns W' :=
  { h with row := h.row.below hb, chg := h.chg.trans (Chg.of_below (foot q Ns0) hb) fun _ hk _ => hk }
/-- Two packs have become one. -/
theorem DoneI.join {w : World} {q : Nat} {Ns0 A B : List Nd} {G : List ByteArray} {N : Int} {W W' : World} {nd v : Nd} {F' : Nat → Prop} (h : DoneI w q Ns0 G N (A ++ nd :: v :: B) W) (h16 : nd.T.length + v.T.length ≤ 16) (hq : QRow W' q (A ++ ⟨nd.x, nd.p, F', nd.T ++ v.T⟩ :: B) N) (hf : Fresh W nd.F F') (hc : Chg (foot q (A ++ nd :: v :: B)) W W') :
    DoneI w q Ns0 G N (A ++ ⟨nd.x, nd.p, F', nd.T ++ v.T⟩ :: B) W' where
  row := hq
  good := fun u hu => by
    simp only [List.mem_append, List.mem_cons] at hu
    rcases hu with hu | rfl | hu
    · exact h.good u (by simp [hu])
    · refine ⟨fun e => (h.good nd (by simp)).1 (List.append_eq_nil_iff.1 e).1, ?_⟩
      show (nd.T ++ v.T).length ≤ 32
      rw [List.length_append]; omega
    · exact h.good u (by simp [hu])
  flat := by rw [← h.flat, flat_append, flat_append, flat_cons, flat_cons, flat_cons, List.append_assoc]
  ft := fun k hk => by
    rcases foot_set (T' := nd.T ++ v.T) hf k hk with h1 | h1
    · refine h.ft k ?_
      rcases h1 with h1 | ⟨u, hu, h1⟩
      · exact .inl h1
      · refine .inr ⟨u, ?_, h1⟩
        simp only [List.mem_append, List.mem_cons] at hu ⊢
        rcases hu with hu | hu | hu
        · exact .inl hu
        · exact .inr (.inl hu)
        · exact .inr (.inr (.inr hu))
    · exact .inr (Nat.le_trans h.chg.size h1)
  chg := h.chg.trans hc fun k hk hlt => by
    rcases h.ft k hk with h1 | h1
    · exact h1
    · omega
/-- The cut has come so far: from place i of node nd on, r more go. -/
structure DelI (w : World) (q : Nat) (Ns0 : List Nd) (G : List ByteArray) (N : Int) (A : List Nd) (nd : Nd) (B : List Nd) (i r : Nat) (W : World) : Prop where
  row : QRow W q (A ++ nd :: B) N
  good : Good (A ++ nd :: B)
  ilt : i < nd.T.length
  rpos : 1 ≤ r
  rle : r ≤ (nd.T.length - i) + (flatN B).length
  flat : flatN A ++ nd.T.take i ++ (nd.T.drop i ++ flatN B).drop r = G
  ft : ∀ k, foot q (A ++ nd :: B) k → foot q Ns0 k ∨ w.heap.size ≤ k
  chg : Chg (foot q Ns0) w W
section
variable {w W W' : World} {q : Nat} {Ns0 A B : List Nd} {nd : Nd} {G : List ByteArray} {N : Int} {i r k : Nat} {F' : Nat → Prop}
/-- One pack is cut. -/
theorem DelI.cut (h : DelI w q Ns0 G N A nd B i r W) (hc : Chg nd.F W W') (hp : PackF W' nd.p F' (nd.T.take i ++ nd.T.drop (i + k))) (hf : Fresh W nd.F F') :
    QRow W' q (A ++ ⟨nd.x, nd.p, F', nd.T.take i ++ nd.T.drop (i + k)⟩ :: B) N ∧ (∀ j, foot q (A ++ ⟨nd.x, nd.p, F', nd.T.take i ++ nd.T.drop (i + k)⟩ :: B) j → foot q Ns0 j ∨ w.heap.size ≤ j) ∧ Chg (foot q Ns0) w W' := by
  refine ⟨h.row.setPack hc hp hf, fun j hj => ?_, h.chg.trans hc fun j hj hlt => ?_⟩
  · rcases foot_set hf j hj with h1 | h1
    · exact h.ft j h1
    · exact .inr (Nat.le_trans h.chg.size h1)
  · rcases h.ft j (.inr ⟨nd, by simp, .inr hj⟩) with h1 | h1
    · exact h1
    · omega
theorem good_set {T' : List ByteArray} (hg : Good (A ++ nd :: B)) (h1 : T' ≠ []) (h2 : T'.length ≤ 32) {x p : Nat} : Good (A ++ ⟨x, p, F', T'⟩ :: B) := fun u hu => by
  simp only [List.mem_append, List.mem_cons] at hu
  rcases hu with hu | rfl | hu
  · exact hg u (by simp [hu])
  · exact ⟨h1, h2⟩
  · exact hg u (by simp [hu])
theorem good_del (hg : Good (A ++ nd :: B)) : Good (A ++ B) := fun u hu => by
  refine hg u ?_
  simp only [List.mem_append, List.mem_cons] at hu ⊢
  exact hu.imp id .inr
/-- Nothing more goes; something of the pack is left. -/
theorem DelI.last (h : DelI w q Ns0 G N A nd B i r W) (hr : r ≤ nd.T.length - i) (hc : Chg nd.F W W') (hp : PackF W' nd.p F' (nd.T.take i ++ nd.T.drop (i + r))) (hf : Fresh W nd.F F') (hne : nd.T.length - r ≠ 0) :
    DoneI w q Ns0 G N (A ++ ⟨nd.x, nd.p, F', nd.T.take i ++ nd.T.drop (i + r)⟩ :: B) W' := by
  obtain ⟨c1, c2, c3⟩ := h.cut hc hp hf
  have hi := h.ilt
  have hg := h.good nd (by simp)
  refine ⟨c1, good_set h.good (fun e => ?_) ?_, ?_, c2, c3⟩
  · have := congrArg List.length e
    simp only [List.length_append, List.length_take, List.length_drop, List.length_nil] at this
    omega
  · simp only [List.length_append, List.length_take, List.length_drop]; omega
  · rw [← h.flat, flat_append, flat_cons, List.drop_append_of_le_length (by rw [List.length_drop]; omega), List.drop_drop]
    simp [List.append_assoc]
/-- Nothing more goes; the pack is empty, and goes. -/
theorem DelI.lastGone (h : DelI w q Ns0 G N A nd B i r W) (hr : r ≤ nd.T.length - i) (h0 : nd.T.length - r = 0) {W2 : World} (hc : Chg nd.F W W') (hp : PackF W' nd.p F' (nd.T.take i ++ nd.T.drop (i + r))) (hf : Fresh W nd.F F') (hq : QRow W2 q (A ++ B) N) (hc2 : Chg (fun k => k = q ∨ ∃ u ∈ A ++ B, k = u.x) W' W2) :
    DoneI w q Ns0 G N (A ++ B) W2 := by
  obtain ⟨c1, c2, c3⟩ := h.cut hc hp hf
  have hi := h.ilt
  have hf2 : ∀ j, foot q (A ++ B) j → foot q Ns0 j ∨ w.heap.size ≤ j := fun j hj => h.ft j (foot_sub j hj)
  refine ⟨hq, good_del h.good, ?_, hf2, c3.trans hc2 fun j hj hlt => ?_⟩
  · rw [← h.flat, flat_append, show i = 0 by omega, List.take_zero, List.append_nil, List.drop_zero, List.drop_append, List.drop_eq_nil_of_le (by omega), show r - nd.T.length = 0 by omega]
    simp
  · have hj' : foot q (A ++ B) j := hj.imp id fun ⟨u, hu, e⟩ => ⟨u, hu, .inl e⟩
    rcases hf2 j hj' with h1 | h1
    · exact h1
    · omega
theorem flat_step {T X Y : List ByteArray} {i r : Nat} (hi : i ≤ T.length) (hr : T.length - i ≤ r) : X ++ T.take i ++ (T.drop i ++ Y).drop r = X ++ T.take i ++ Y.drop (r - (T.length - i)) := by
  rw [List.drop_append, List.drop_eq_nil_of_le (by rw [List.length_drop]; omega), List.nil_append, List.length_drop]
/-- More goes; something of the pack is left. -/
theorem DelI.next {v : Nd} {B' : List Nd} (h : DelI w q Ns0 G N A nd (v :: B') i r W) (hr : nd.T.length - i < r) (hc : Chg nd.F W W') (hp : PackF W' nd.p F' (nd.T.take i ++ nd.T.drop (i + (nd.T.length - i)))) (hf : Fresh W nd.F F') (hne : i ≠ 0) :
    DelI w q Ns0 G N (A ++ [⟨nd.x, nd.p, F', nd.T.take i ++ nd.T.drop (i + (nd.T.length - i))⟩]) v B' 0 (r - (nd.T.length - i)) W' := by
  obtain ⟨c1, c2, c3⟩ := h.cut hc hp hf
  have hi := h.ilt
  have hrl := h.rle
  have hg := h.good nd (by simp)
  have hv := h.good v (by simp)
  have hvl : 0 < v.T.length := List.length_pos_iff.2 hv.1
  rw [flat_cons, List.length_append] at hrl
  have hgood : Good (A ++ ⟨nd.x, nd.p, F', nd.T.take i ++ nd.T.drop (i + (nd.T.length - i))⟩ :: v :: B') := good_set h.good (fun e => by
    have := congrArg List.length e
    simp only [List.length_append, List.length_take, List.length_drop, List.length_nil] at this
    omega) (by simp only [List.length_append, List.length_take, List.length_drop]; omega)
  refine ⟨by simpa using c1, by simpa using hgood, hvl, by omega, by omega, ?_, by simpa using c2, c3⟩
  have e := flat_step (T := nd.T) (X := flatN A) (Y := flatN (v :: B')) (i := i) (r := r) (by omega) (by omega)
  rw [← h.flat, e, flat_cons v B', flat_append, flat_cons, flat_nil, List.append_nil, List.take_zero, List.append_nil, List.drop_zero, List.drop_eq_nil_of_le (show nd.T.length ≤ i + (nd.T.length - i) by omega), List.append_nil]
/-- More goes; the pack is empty, and goes. -/
theorem DelI.nextGone {v : Nd} {B' : List Nd} (h : DelI w q Ns0 G N A nd (v :: B') i r W) (hr : nd.T.length - i < r) (h0 : i = 0) {W2 : World} (hc : Chg nd.F W W') (hp : PackF W' nd.p F' (nd.T.take i ++ nd.T.drop (i + (nd.T.length - i)))) (hf : Fresh W nd.F F') (hq : QRow W2 q (A ++ v :: B') N) (hc2 : Chg (fun k => k = q ∨ ∃ u ∈ A ++ v :: B', k = u.x) W' W2) :
    DelI w q Ns0 G N A v B' 0 (r - (nd.T.length - i)) W2 := by
  obtain ⟨c1, c2, c3⟩ := h.cut hc hp hf
  have hrl := h.rle
  have hv := h.good v (by simp)
  have hvl : 0 < v.T.length := List.length_pos_iff.2 hv.1
  rw [flat_cons, List.length_append] at hrl
  have hf2 : ∀ j, foot q (A ++ v :: B') j → foot q Ns0 j ∨ w.heap.size ≤ j := fun j hj => h.ft j (foot_sub j hj)
  refine ⟨hq, good_del h.good, hvl, by omega, by omega, ?_, hf2, c3.trans hc2 fun j hj hlt => ?_⟩
  · have e := flat_step (T := nd.T) (X := flatN A) (Y := flatN (v :: B')) (i := i) (r := r) (by have := h.ilt; omega) (by omega)
    rw [← h.flat, e, flat_cons v B', h0]
    simp
  · have hj' : foot q (A ++ v :: B') j := hj.imp id fun ⟨u, hu, e⟩ => ⟨u, hu, .inl e⟩
    rcases hf2 j hj' with h1 | h1
    · exact h1
    · omega
end
end Go.Proofs.YtfbhddllimfdlaaDoor

/- quick: Delete. -/
namespace Go.Proofs.YtfbhddllimfdlaaDoor
set_option linter.unusedVariables false
set_option linter.unusedSimpArgs false
open Go.RowKit
set_option maxHeartbeats 6400000 in
set_option maxRecDepth 100000 in
theorem quickDelete {w0 w : World} (hl : Laid w0) (hb0 : Below w0.heap.size w0 w) (hN : w0.heap.size ≤ w.heap.size) {q : Nat} {F : Nat → Prop} {L : List ByteArray} (h : QuickF w q F L) (kF : ∀ k, F k → w0.heap.size ≤ k) (hn : L.length ≤ 1000000000) (a d : Int) (ha : -9223372036854775808 ≤ a ∧ a ≤ 9223372036854775807) (hd : -9223372036854775808 ≤ d ∧ d ≤ 9223372036854775807) :
    Calls Tryd.prog 23 #[pv q, .int .i64 a, .int .i64 d] w fun e w' => e = .returned (.int .i64 (delP L a d).1) ∧ (∃ F', QuickF w' q F' (delP L a d).2 ∧ Fresh w F F') ∧ Chg F w w' := by
  have hF0 := h
  obtain ⟨Ns, h1, h2, h3, h4⟩ := h
  have q0 : w.cell? ⟨q, 0, none⟩ = some (.bool true) := cell_in h1.head (i := 0) rfl
  have q3 : w.cell? ⟨q, 3, none⟩ = some (.int .i64 (L.length : Nat)) := cell_in h1.head (i := 3) rfl
  have f3 := frozen_in h1.head 3
  have HS := Lib.hid (show (∃ F', QuickF w q F' L ∧ Fresh w F F') ∧ Chg F w w from ⟨⟨F, hF0, fun k hk => .inl hk⟩, Chg.refl _ _⟩)
  clear hF0
  by_cases c1 : a < 0 ∨ (L.length : Int) < a ∨ d < 0 ∨ (L.length : Int) - a < d
  · have hv : delP L a d = (1, L) := by unfold delP; rw [if_pos c1]
    rw [hv]
    clear hv h1 h2 h3 h4 hl hb0 kF
    generalize L.length = n at *
    by_cases c2 : a < 0
    · have d1 : decide (a < 0) = true := decide_eq_true c2
      clear c1 c2
      go_enter Tryd.func23, Tryd.ntmps23
      go_wp2_with fail
      go_step3
      go_wp2_with fail
      rw [Exit.noGoto_ret]; go_ret
      exact ⟨rfl, HS.out⟩
    · have d1 : decide (a < 0) = false := decide_eq_false c2
      by_cases c3 : (n : Int) < a
      · have d2 : decide ((n : Int) < a) = true := decide_eq_true c3
        clear c1 c2 c3
        go_enter Tryd.func23, Tryd.ntmps23
        go_wp2_with fail
        go_step3
        go_wp2_with fail
        rw [Exit.noGoto_ret]; go_ret
        exact ⟨rfl, HS.out⟩
      · have d2 : decide ((n : Int) < a) = false := decide_eq_false c3
        by_cases c4 : d < 0
        · have d3 : decide (d < 0) = true := decide_eq_true c4
          clear c1 c2 c3 c4
          go_enter Tryd.func23, Tryd.ntmps23
          go_wp2_with fail
          go_step3
          go_wp2_with fail
          rw [Exit.noGoto_ret]; go_ret
          exact ⟨rfl, HS.out⟩
        · have d3 : decide (d < 0) = false := decide_eq_false c4
          have d4 : decide ((n : Int) - a < d) = true := decide_eq_true (by omega)
          have hw : 0 ≤ a ∧ a ≤ (n : Int) := by omega
          clear c1 c2 c3 c4
          go_enter Tryd.func23, Tryd.ntmps23
          go_wp2_with fail
          go_step3
          go_wp2_with fail
          rw [Exit.noGoto_ret]; go_ret
          exact ⟨rfl, HS.out⟩
  · obtain ⟨m, rfl⟩ : ∃ m : Nat, a = (m : Int) := ⟨a.toNat, by omega⟩
    obtain ⟨r, rfl⟩ : ∃ r : Nat, d = (r : Int) := ⟨d.toNat, by omega⟩
    have hmr : m + r ≤ L.length := by omega
    have hv : delP L m r = (0, L.take m ++ L.drop (m + r)) := delP_ok hmr
    rw [hv]
    have d1 : decide ((m : Int) < 0) = false := decide_eq_false (by omega)
    have d2 : decide ((L.length : Int) < (m : Int)) = false := decide_eq_false (by omega)
    have d2' : decide (L.length < m) = false := decide_eq_false (by omega)
    have d3 : decide ((r : Int) < 0) = false := decide_eq_false (by omega)
    have d4 : decide ((L.length : Int) - (m : Int) < (r : Int)) = false := decide_eq_false (by omega)
    by_cases hr0 : r = 0
    · subst hr0
      rw [Nat.add_zero, List.take_append_drop]
      clear hv h1 h2 h3 h4 hl hb0 kF c1
      generalize L.length = n at *
      go_enter Tryd.func23, Tryd.ntmps23
      go_wp2_with fail
      go_step3
      go_wp2_with fail
      rw [Exit.noGoto_ret]; go_ret
      exact ⟨rfl, HS.out⟩
    · have d5 : ((r : Int) == 0) = false := by rw [beq_eq_false_iff_ne]; omega
      obtain ⟨G, hG⟩ : ∃ G, L.take m ++ L.drop (m + r) = G := ⟨_, rfl⟩
      rw [hG]
      have hGl : G.length = L.length - r := by rw [← hG, List.length_append, List.length_take, List.length_drop]; omega
      have hfn : (flatN Ns).length = L.length := by rw [h3]
      obtain ⟨N, hNN⟩ : ∃ N : Int, (L.length : Int) - (r : Int) = N := ⟨_, rfl⟩
      have H := Lib.hid (And.intro hl (And.intro hb0 (And.intro hN (And.intro (show ∀ k, foot q Ns k → w0.heap.size ≤ k from fun k hk => kF k ((h4 k).2 hk)) (And.intro h4 (And.intro hGl hNN))))))
      have HBl := Lib.hid (show ∀ W, Chg (foot q Ns) w W → Below w0.heap.size w0 W from fun W hc => belowChg H.out.2.1 hc H.out.2.2.1 fun k hk _ => H.out.2.2.2.1 k hk)
      have HFt := Lib.hid (show ∀ Ms W, DoneI w q Ns G N Ms W → ∀ k, foot q Ms k → w0.heap.size ≤ k from fun Ms W hD k hk => (hD.ft k hk).elim (H.out.2.2.2.1 k) fun h => Nat.le_trans H.out.2.2.1 h)
      have HEnd := Lib.hid (show ∀ W Ms, DoneI w q Ns G N Ms W → (∃ F', QuickF W q F' G ∧ Fresh w F F') ∧ Chg F w W from fun W Ms hD => by
        refine ⟨⟨foot q Ms, ⟨Ms, ?_, hD.good, hD.flat, fun k => Iff.rfl⟩, fun k hk => (hD.ft k hk).imp (fun h => (h4 k).2 h) id⟩, hD.chg.mono fun k hk _ => (h4 k).2 hk⟩
        have : ((G.length : Nat) : Int) = N := by rw [hGl, ← hNN]; omega
        rw [this]
        exact hD.row)
      have HFd := Lib.hid (find_any h1 (m + 1) (by omega) (by omega))
      rw [show ((m + 1 : Nat) : Int) = (m : Int) + 1 by omega] at HFd
      have HQ0 := Lib.hid (And.intro h1 (And.intro h2 (And.intro h3 (And.intro hfn hG))))
      clear hl hb0 hN kF h1 h2 h3 h4 hv c1 HS hGl hfn hG
      rw [← HQ0.out.2.2.2.1] at hmr hn
      obtain ⟨n, hnn⟩ : ∃ n, L.length = n := ⟨_, rfl⟩
      rw [HQ0.out.2.2.2.1, hnn] at hmr hn
      have hnb : n ≤ 1000000000 := by omega
      rw [hnn] at d2 d2' d4 q3 hNN
      have HNn := Lib.hid hnn
      clear hn hnn
      go_enter Tryd.func23, Tryd.ntmps23
      go_wp2_with fail
      go_step3
      go_wp2_with fail
      refine HFd.out.mono ?_
      rintro e w1 ⟨⟨hnil, _⟩ | ⟨A, nd, B, pl, hat, rfl⟩, b1⟩
      · exfalso
        have := HQ0.out.2.2.2.1
        rw [hnil, HNn.out] at this
        simp at this
        omega
      · have hq1 := HQ0.out.1.below b1
        have y3 : w1.cell? ⟨q, 3, none⟩ = some (.int .i64 n) := by rw [← HNn.out]; exact cell_in hq1.head (i := 3) rfl
        have yf := frozen_in hq1.head 3
        have hpl := hat.pos (by omega)
        have hle := hat.le
        have h32 : nd.T.length ≤ 32 := (HQ0.out.2.1 nd (by rw [hat.eq]; simp)).2
        have hpb : pl ≤ 32 := by omega
        obtain ⟨w2, hw2⟩ : ∃ w2, w2 = w1.setCell ⟨q, 3, none⟩ (.int .i64 N) := ⟨_, rfl⟩
        obtain ⟨i0, hi0⟩ : ∃ i0, pl = i0 + 1 := ⟨pl - 1, by omega⟩
        have HD := Lib.hid (show DelI w q Ns G N A nd B i0 r w2 from by
          have hc : Chg (foot q Ns) w w2 := by rw [hw2]; exact (Chg.of_below (foot q Ns) b1).trans (Chg.setCell (fun k => k = q) w1 ⟨q, 3, none⟩ _ rfl) fun k hk _ => .inl hk
          have hlen := HQ0.out.2.2.2.1
          rw [HNn.out, hat.flat, List.length_append, List.length_append] at hlen
          have hsum := hat.sum
          refine ⟨?_, hat.eq ▸ HQ0.out.2.1, by omega, by omega, by omega, ?_, fun k hk => .inl (by rw [hat.eq]; exact hk), hc⟩
          · rw [← hat.eq, hw2]; exact hq1.setN _
          · rw [← HQ0.out.2.2.2.2, ← HQ0.out.2.2.1]
            have e1 : (flatN Ns).take m = flatN A ++ nd.T.take i0 := by
              rw [hat.flat, show m = (flatN A).length + i0 by omega, List.append_assoc, List.take_length_add_append, List.take_append_of_le_length (by omega)]
            have e2 : (flatN Ns).drop m = nd.T.drop i0 ++ flatN B := by
              rw [hat.flat, show m = (flatN A).length + i0 by omega, List.append_assoc, List.drop_length_add_append, List.drop_append_of_le_length (by omega)]
            rw [e1, ← List.drop_drop, e2])
        subst hi0
        have HW2 := Lib.hid hw2
        clear hq1 hat b1 hw2 hle hpl h32 HFd
        rw [show ((i0 + 1 : Nat) : Int) = (i0 : Int) + 1 by omega]
        go_wp2_with fail
        rw [← HW2.out]
        go_step3
        go_wp2_with fail
        go_loopw [2, 7, 8, 9, 10] (fun nv xv iv kv nx wr => ∃ (A : List Nd) (nd : Nd) (B : List Nd) (i r1 : Nat), nv = .int .i64 r1 ∧ xv = pv nd.x ∧ iv = .int .i64 i ∧ i ≤ 32 ∧ r1 ≤ 1000000000 ∧ Hid (DelI w q Ns G N A nd B i r1 wr)) (fun nv _ _ _ _ _ => (intOf nv).toNat)
        case atStart => exact ⟨A, nd, B, i0, r, rfl, rfl, rfl, by omega, by omega, HD⟩
        case round =>
          clear HD
          obtain ⟨A, nd, B, i, r1, rfl, rfl, rfl, hi32, hr1, hI⟩ := hrel
          have hrow := hI.out.row
          have xn := cell_in hrow.node (i := 0) rfl
          have hpk := hrow.packs nd (by simp)
          have HL := Lib.hid (packLen hpk)
          have hilt := hI.out.ilt
          have hrp := hI.out.rpos
          have h32 : nd.T.length ≤ 32 := (hI.out.good nd (by simp)).2
          obtain ⟨nT, hnT⟩ : ∃ nT, nd.T.length = nT := ⟨_, rfl⟩
          by_cases c : r1 ≤ nT - i
          · have hmin : min (r1 : Int) ((nT : Int) - (i : Int)) = (r1 : Int) := by omega
            have HDe := Lib.hid (packDelete hpk (H.out.1.below (HBl.out _ hI.out.chg)) (i : Int) (r1 : Int) (by omega) (by omega))
            rw [delP_ok (by rw [hnT]; omega)] at HDe
            rw [hnT] at HL hilt h32
            have HT := Lib.hid hnT
            clear hrow hpk hnT
            obtain ⟨z, hz⟩ : ∃ z, nT - r1 = z := ⟨_, rfl⟩
            have HZ := Lib.hid hz
            go_wp2_with fail
            refine HL.out.mono ?_
            rintro e w' ⟨rfl, rfl⟩
            go_wp2_with fail
            refine HDe.out.mono ?_
            rintro e w5 ⟨rfl, ⟨F5, p5, f5⟩, c5⟩
            obtain ⟨u1, u2, u3⟩ := hI.out.cut c5 p5 f5
            have xn5 := cell_in u1.node (i := 0) rfl
            have x25 : w5.cell? ⟨nd.x, 2, none⟩ = some (ptrO (hdO B none)) := cell_in u1.node (i := 2) rfl
            have HL5 := Lib.hid (packLen p5)
            rw [show (nd.T.take i ++ nd.T.drop (i + r1)).length = z by rw [List.length_append, List.length_take, List.length_drop, HT.out]; omega] at HL5
            have HU := Lib.hid (unlink_any u1)
            have HC := Lib.hid (And.intro c5 (And.intro p5 f5))
            clear u1 u2 u3 c5 p5 f5 HDe hz
            by_cases hz0 : z = 0
            · have dz : ((z : Int) == 0) = true := by rw [beq_iff_eq]; omega
              go_wp2_with fail
              refine HL5.out.mono ?_
              rintro e w' ⟨rfl, rfl⟩
              go_wp2_with fail
              refine HU.out.mono ?_
              rintro e w6 ⟨⟨v6, rfl⟩, q6, ch6⟩
              have HD := Lib.hid (hI.out.lastGone (by rw [HT.out]; exact c) (by rw [HT.out]; have := HZ.out; omega) HC.out.1 HC.out.2.1 HC.out.2.2 q6 ch6)
              clear q6 ch6 HU HL5 HC hI dz hz0 xn xn5 x25 HL hmin
              go_wp2_with fail
              have HFd2 := Lib.hid (find_any HD.out.row m (by rw [HD.out.flat, H.out.2.2.2.2.2.1, HNn.out]; omega) (by omega))
              refine HFd2.out.mono ?_
              rintro e w8 ⟨⟨hnil, rfl⟩ | ⟨A8, nd8, B8, pl8, hat8, rfl⟩, b8⟩
              · have HD8 := Lib.hid (HD.out.below b8)
                clear hnil b8 HFd2 HD
                go_wp2_with fail
                go_loopw [112] (fun _ wr => ∃ Ms, Hid (DoneI w q Ns G N Ms wr)) (fun _ _ => 0)
                case atStart => exact ⟨_, HD8⟩
                case round =>
                  obtain ⟨Ms, hI⟩ := hrel
                  have HJ := Lib.hid (join_nil (w := wr) q)
                  go_wp2_with fail
                  refine HJ.out.mono ?_
                  rintro e w9 ⟨rfl, b9⟩
                  have HD9 := Lib.hid (hI.out.below b9)
                  clear b9 HJ hI
                  go_wp2_with fail
                  go_loopw [11, 13] (fun y x wr => y = .pointer none ∧ ∃ Ms, Hid (DoneI w q Ns G N Ms wr)) (fun _ _ _ => 0)
                  case atStart => exact ⟨rfl, _, HD9⟩
                  case round =>
                    obtain ⟨rfl, Ms, hI⟩ := hrel
                    go_wp2_with fail
                    rw [Exit.noGoto_ret]; go_ret
                    exact ⟨rfl, HEnd.out _ _ hI.out⟩
              · have HD8 := Lib.hid (hat8.eq ▸ HD.out.below b8)
                clear hat8 b8 HFd2 HD
                go_wp2_with fail
                go_loopw [112] (fun _ wr => ∃ (A : List Nd) (nd : Nd) (B : List Nd), nd.x = nd8.x ∧ Hid (DoneI w q Ns G N (A ++ nd :: B) wr)) (fun _ wr => lenQ wr q)
                case atStart => exact ⟨_, _, _, rfl, HD8⟩
                case round =>
                  obtain ⟨A, nd, B, hx8, hI⟩ := hrel
                  have HX8 := Lib.hid hx8
                  clear hx8
                  have HJ := Lib.hid (join_node H.out.1 (HBl.out _ hI.out.chg) (Nat.le_trans H.out.2.2.1 hI.out.chg.size) hI.out.row (fun k hk => HFt.out _ _ hI.out k hk) hI.out.good)
                  rw [HX8.out] at HJ
                  go_wp2_with fail
                  refine HJ.out.mono ?_
                  rintro e w9 ⟨b, rfl, ⟨rfl, b9⟩ | ⟨rfl, v, B', F', hBv, h16, hq9, f9, c9⟩⟩
                  · have HD9 := Lib.hid (hI.out.below b9)
                    clear b9 HJ hI
                    go_wp2_with fail
                    go_loopw [11, 13] (fun y x wr => ∃ A nd B, y = pv nd.x ∧ Hid (DoneI w q Ns G N (A ++ nd :: B) wr)) (fun _ _ wr => lenQ wr q)
                    case atStart => exact ⟨_, _, _, by rw [HX8.out], HD9⟩
                    case round =>
                      obtain ⟨A, nd, B, rfl, hI⟩ := hrel
                      have x1 := cell_in hI.out.row.node (i := 1) rfl
                      rcases List.eq_nil_or_concat A with rfl | ⟨A', u, hA⟩
                      · have HJ := Lib.hid (fun w' => join_nil (w := w') q)
                        rw [show ptrO (lstO none []) = .pointer none from rfl] at x1
                        go_wp2_with fail
                        refine (HJ.out _).mono ?_
                        rintro e w10 ⟨rfl, b10⟩
                        have HD10 := Lib.hid (hI.out.below b10)
                        clear b10 HJ hI x1
                        go_wp2_with fail
                        rw [Exit.noGoto_ret]; go_ret
                        exact ⟨rfl, HEnd.out _ _ HD10.out⟩
                      · rw [List.concat_eq_append] at hA
                        subst hA
                        clear x1
                        have hI2 : DoneI w q Ns G N (A' ++ u :: nd :: B) wr := by have := hI.out; simpa using this
                        have x1 : wr.cell? ⟨nd.x, 1, none⟩ = some (pv u.x) := by
                          have := hI.out.row.node
                          rw [lstO_last] at this
                          exact cell_in this (i := 1) rfl
                        have HI2 := Lib.hid hI2
                        have HJ := Lib.hid (join_node H.out.1 (HBl.out _ hI2.chg) (Nat.le_trans H.out.2.2.1 hI2.chg.size) hI2.row (fun k hk => HFt.out _ _ hI2 k hk) hI2.good)
                        clear hI2 hI
                        go_wp2_with fail
                        refine HJ.out.mono ?_
                        rintro e w10 ⟨b, rfl, ⟨rfl, b10⟩ | ⟨rfl, v, B', F', hBv, h16, hq10, f10, c10⟩⟩
                        · have HD10 := Lib.hid (HI2.out.below b10)
                          clear b10 HJ x1 HI2
                          go_wp2_with fail
                          rw [Exit.noGoto_ret]; go_ret
                          exact ⟨rfl, HEnd.out _ _ HD10.out⟩
                        · obtain ⟨rfl, rfl⟩ := List.cons.inj hBv
                          have HD10 := Lib.hid (HI2.out.join h16 hq10 f10 c10)
                          have HM := Lib.hid (show lenQ w10 q < lenQ wr q by
                            rw [lenQ_eq hq10, lenQ_eq HI2.out.row]
                            simp only [List.length_append, List.length_cons]; omega)
                          clear h16 hq10 f10 c10 HJ x1 HI2 hBv
                          go_wp2_with fail
                          go_roundw
                          case rel => exact ⟨A', ⟨u.x, u.p, F', _⟩, _, rfl, HD10⟩
                          case measure => exact HM.out
                  · subst hBv
                    rw [← HX8.out] at hq9
                    have HD9 := Lib.hid (hI.out.join h16 hq9 f9 c9)
                    have HM := Lib.hid (show lenQ w9 q < lenQ wr q by
                      rw [lenQ_eq hq9, lenQ_eq hI.out.row]
                      simp only [List.length_append, List.length_cons]; omega)
                    clear h16 hq9 f9 c9 HJ hI
                    go_wp2_with fail
                    go_roundw
                    case rel => exact ⟨A, ⟨nd.x, nd.p, F', nd.T ++ v.T⟩, B', HX8.out, HD9⟩
                    case measure => exact HM.out
            · have dz : ((z : Int) == 0) = false := by rw [beq_eq_false_iff_ne]; omega
              have HD := Lib.hid (hI.out.last (by rw [HT.out]; exact c) HC.out.1 HC.out.2.1 HC.out.2.2 (by rw [HT.out]; have := HZ.out; omega))
              go_wp2_with fail
              refine HL5.out.mono ?_
              rintro e w' ⟨rfl, rfl⟩
              clear HU HL5 HC hI hz0 xn xn5 x25 HL hmin
              go_wp2_with fail
              have HFd2 := Lib.hid (find_any HD.out.row m (by rw [HD.out.flat, H.out.2.2.2.2.2.1, HNn.out]; omega) (by omega))
              refine HFd2.out.mono ?_
              rintro e w8 ⟨⟨hnil, rfl⟩ | ⟨A8, nd8, B8, pl8, hat8, rfl⟩, b8⟩
              · have HD8 := Lib.hid (HD.out.below b8)
                clear hnil b8 HFd2 HD
                go_wp2_with fail
                go_loopw [112] (fun _ wr => ∃ Ms, Hid (DoneI w q Ns G N Ms wr)) (fun _ _ => 0)
                case atStart => exact ⟨_, HD8⟩
                case round =>
                  obtain ⟨Ms, hI⟩ := hrel
                  have HJ := Lib.hid (join_nil (w := wr) q)
                  go_wp2_with fail
                  refine HJ.out.mono ?_
                  rintro e w9 ⟨rfl, b9⟩
                  have HD9 := Lib.hid (hI.out.below b9)
                  clear b9 HJ hI
                  go_wp2_with fail
                  go_loopw [11, 13] (fun y x wr => y = .pointer none ∧ ∃ Ms, Hid (DoneI w q Ns G N Ms wr)) (fun _ _ _ => 0)
                  case atStart => exact ⟨rfl, _, HD9⟩
                  case round =>
                    obtain ⟨rfl, Ms, hI⟩ := hrel
                    go_wp2_with fail
                    rw [Exit.noGoto_ret]; go_ret
                    exact ⟨rfl, HEnd.out _ _ hI.out⟩
              · have HD8 := Lib.hid (hat8.eq ▸ HD.out.below b8)
                clear hat8 b8 HFd2 HD
                go_wp2_with fail
                go_loopw [112] (fun _ wr => ∃ (A : List Nd) (nd : Nd) (B : List Nd), nd.x = nd8.x ∧ Hid (DoneI w q Ns G N (A ++ nd :: B) wr)) (fun _ wr => lenQ wr q)
                case atStart => exact ⟨_, _, _, rfl, HD8⟩
                case round =>
                  obtain ⟨A, nd, B, hx8, hI⟩ := hrel
                  have HX8 := Lib.hid hx8
                  clear hx8
                  have HJ := Lib.hid (join_node H.out.1 (HBl.out _ hI.out.chg) (Nat.le_trans H.out.2.2.1 hI.out.chg.size) hI.out.row (fun k hk => HFt.out _ _ hI.out k hk) hI.out.good)
                  rw [HX8.out] at HJ
                  go_wp2_with fail
                  refine HJ.out.mono ?_
                  rintro e w9 ⟨b, rfl, ⟨rfl, b9⟩ | ⟨rfl, v, B', F', hBv, h16, hq9, f9, c9⟩⟩
                  · have HD9 := Lib.hid (hI.out.below b9)
                    clear b9 HJ hI
                    go_wp2_with fail
                    go_loopw [11, 13] (fun y x wr => ∃ A nd B, y = pv nd.x ∧ Hid (DoneI w q Ns G N (A ++ nd :: B) wr)) (fun _ _ wr => lenQ wr q)
                    case atStart => exact ⟨_, _, _, by rw [HX8.out], HD9⟩
                    case round =>
                      obtain ⟨A, nd, B, rfl, hI⟩ := hrel
                      have x1 := cell_in hI.out.row.node (i := 1) rfl
                      rcases List.eq_nil_or_concat A with rfl | ⟨A', u, hA⟩
                      · have HJ := Lib.hid (fun w' => join_nil (w := w') q)
                        rw [show ptrO (lstO none []) = .pointer none from rfl] at x1
                        go_wp2_with fail
                        refine (HJ.out _).mono ?_
                        rintro e w10 ⟨rfl, b10⟩
                        have HD10 := Lib.hid (hI.out.below b10)
                        clear b10 HJ hI x1
                        go_wp2_with fail
                        rw [Exit.noGoto_ret]; go_ret
                        exact ⟨rfl, HEnd.out _ _ HD10.out⟩
                      · rw [List.concat_eq_append] at hA
                        subst hA
                        clear x1
                        have hI2 : DoneI w q Ns G N (A' ++ u :: nd :: B) wr := by have := hI.out; simpa using this
                        have x1 : wr.cell? ⟨nd.x, 1, none⟩ = some (pv u.x) := by
                          have := hI.out.row.node
                          rw [lstO_last] at this
                          exact cell_in this (i := 1) rfl
                        have HI2 := Lib.hid hI2
                        have HJ := Lib.hid (join_node H.out.1 (HBl.out _ hI2.chg) (Nat.le_trans H.out.2.2.1 hI2.chg.size) hI2.row (fun k hk => HFt.out _ _ hI2 k hk) hI2.good)
                        clear hI2 hI
                        go_wp2_with fail
                        refine HJ.out.mono ?_
                        rintro e w10 ⟨b, rfl, ⟨rfl, b10⟩ | ⟨rfl, v, B', F', hBv, h16, hq10, f10, c10⟩⟩
                        · have HD10 := Lib.hid (HI2.out.below b10)
                          clear b10 HJ x1 HI2
                          go_wp2_with fail
                          rw [Exit.noGoto_ret]; go_ret
                          exact ⟨rfl, HEnd.out _ _ HD10.out⟩
                        · obtain ⟨rfl, rfl⟩ := List.cons.inj hBv
                          have HD10 := Lib.hid (HI2.out.join h16 hq10 f10 c10)
                          have HM := Lib.hid (show lenQ w10 q < lenQ wr q by
                            rw [lenQ_eq hq10, lenQ_eq HI2.out.row]
                            simp only [List.length_append, List.length_cons]; omega)
                          clear h16 hq10 f10 c10 HJ x1 HI2 hBv
                          go_wp2_with fail
                          go_roundw
                          case rel => exact ⟨A', ⟨u.x, u.p, F', _⟩, _, rfl, HD10⟩
                          case measure => exact HM.out
                  · subst hBv
                    rw [← HX8.out] at hq9
                    have HD9 := Lib.hid (hI.out.join h16 hq9 f9 c9)
                    have HM := Lib.hid (show lenQ w9 q < lenQ wr q by
                      rw [lenQ_eq hq9, lenQ_eq hI.out.row]
                      simp only [List.length_append, List.length_cons]; omega)
                    clear h16 hq9 f9 c9 HJ hI
                    go_wp2_with fail
                    go_roundw
                    case rel => exact ⟨A, ⟨nd.x, nd.p, F', nd.T ++ v.T⟩, B', HX8.out, HD9⟩
                    case measure => exact HM.out
          · obtain ⟨k, hk⟩ : ∃ k, nT - i = k := ⟨_, rfl⟩
            have hmin : min (r1 : Int) ((nT : Int) - (i : Int)) = (k : Int) := by omega
            have HDe := Lib.hid (packDelete hpk (H.out.1.below (HBl.out _ hI.out.chg)) (i : Int) (k : Int) (by omega) (by omega))
            rw [delP_ok (by rw [hnT]; omega)] at HDe
            have hrl := hI.out.rle
            rw [hnT] at HL hilt h32 hrl
            have HT := Lib.hid (And.intro hnT hk)
            have hkp : 1 ≤ k ∧ k < r1 ∧ k ≤ nT := by omega
            have dk : ((r1 : Int) - (k : Int) == 0) = false := by rw [beq_eq_false_iff_ne]; omega
            cases B with
            | nil => simp at hrl; omega
            | cons v B =>
              clear hrow hpk hnT hrl c hk
              obtain ⟨z, hz⟩ : ∃ z, nT - k = z := ⟨_, rfl⟩
              have HZ := Lib.hid hz
              go_wp2_with fail
              refine HL.out.mono ?_
              rintro e w' ⟨rfl, rfl⟩
              go_wp2_with fail
              refine HDe.out.mono ?_
              rintro e w5 ⟨rfl, ⟨F5, p5, f5⟩, c5⟩
              obtain ⟨u1, u2, u3⟩ := hI.out.cut c5 p5 f5
              have xn5 := cell_in u1.node (i := 0) rfl
              have x25 : w5.cell? ⟨nd.x, 2, none⟩ = some (pv v.x) := cell_in u1.node (i := 2) rfl
              have HL5 := Lib.hid (packLen p5)
              rw [show (nd.T.take i ++ nd.T.drop (i + k)).length = z by rw [List.length_append, List.length_take, List.length_drop, HT.out.1]; omega] at HL5
              have HU := Lib.hid (unlink_any u1)
              have hkT : nd.T.length - i = k := by rw [HT.out.1, HT.out.2]
              rw [← hkT] at p5
              have HC := Lib.hid (And.intro c5 (And.intro p5 f5))
              have HKT := Lib.hid hkT
              clear u1 u2 u3 c5 p5 f5 HDe hz hkT
              by_cases hz0 : z = 0
              · have dz : ((z : Int) == 0) = true := by rw [beq_iff_eq]; omega
                go_wp2_with fail
                refine HL5.out.mono ?_
                rintro e w' ⟨rfl, rfl⟩
                go_wp2_with fail
                refine HU.out.mono ?_
                rintro e w6 ⟨⟨v6, rfl⟩, q6, ch6⟩
                have HD := Lib.hid (hI.out.nextGone (by rw [HKT.out]; omega) (by have := HZ.out; have := HT.out.2; omega) HC.out.1 HC.out.2.1 HC.out.2.2 q6 ch6)
                rw [HKT.out] at HD
                clear q6 ch6 HU HL5 HC hI dz hz0 xn xn5 x25 HL hmin
                go_wp2_with fail
                go_roundw
                case rel => exact ⟨A, v, B, 0, r1 - k, by congr 1; omega, rfl, rfl, by omega, by omega, HD⟩
                case measure => simp [intOf]; omega
              · have dz : ((z : Int) == 0) = false := by rw [beq_eq_false_iff_ne]; omega
                have HD := Lib.hid (hI.out.next (by rw [HKT.out]; omega) HC.out.1 HC.out.2.1 HC.out.2.2 (by have := HZ.out; have := HT.out.2; omega))
                rw [HKT.out] at HD
                go_wp2_with fail
                refine HL5.out.mono ?_
                rintro e w' ⟨rfl, rfl⟩
                clear HU HL5 HC hI hz0 xn xn5 x25 HL hmin
                go_wp2_with fail
                go_roundw
                case rel => exact ⟨_, v, B, 0, r1 - k, by congr 1; omega, rfl, rfl, by omega, by omega, HD⟩
                case measure => simp [intOf]; omega
end Go.Proofs.YtfbhddllimfdlaaDoor

/- Opening slices that came in, at a row that bounds what it reads. -/
namespace Go.Proofs.YtfbhddllimfdlaaDoor
set_option linter.unusedVariables false
set_option linter.unusedSimpArgs false
open Go.RowKit Go.ChangeShapes Go.WideShapes Go.Deep
section
variable {H : Type} {enc : TypeId × Value → H} {w : World} {base : Nat} {spare : Nat → Bool} {held : Bool} {fuel : Nat}
theorem bulk_partT {d : DataW H} {l : List (DataW H)} (h : d ∈ l) : Rows.uptoBulk d ≤ Rows.uptoBulkAll l := by
  induction l with
  | nil => cases h
  | cons x r ih =>
    simp only [Rows.uptoBulkAll]
    rcases List.mem_cons.1 h with e | e
    · subst e; omega
    · have := ih e; omega
theorem bulk_texts (f : Nat → DataW H) (S : Nat → ByteArray) : ∀ (l : List Nat), (∀ i ∈ l, f i = .lit (.string (S i).data.toList)) → totalT (l.map S) ≤ Rows.uptoBulkAll (l.map f)
  | [], _ => by simp [totalT]
  | i :: l, h => by
    have h1 := bulk_texts f S l fun j hj => h j (by simp [hj])
    have h2 := h i (by simp)
    have e : (S i).data.toList.length = (S i).size := by rw [Array.length_toList]; rfl
    unfold totalT at *
    simp only [List.map_cons, Rows.uptoBulkAll, h2, Rows.uptoBulk, List.length_cons, List.sum_cons]
    omega
/-- A slice of texts. -/
theorem texts_arg {a : Option Addr} {len cap : Nat} {d : DataW H} {ps : List MemPlace} (h : DataW.Trod enc Tryd.prog w base spare held 35 (.slice a len cap) d ps) (hb : Rows.uptoBulk d ≤ 1048576) :
    ∃ zs : List ByteArray, (zs.length = len ∧ ArgRow w a len cap (fun i => .string (zs.getD i ByteArray.empty))) ∧ totalT zs ≤ 1048576 := by
  obtain ⟨fuel, hf⟩ := h
  rcases open_slice1 Tryd.underlying35 (by kernel_rfl) hf with ⟨hcs, _⟩ | ⟨x, l, c, m, n, V, D, Pl, hcs, hx, hl, hm, hmm, hd, hV⟩
  · simp [Value.cells] at hcs
    obtain ⟨rfl, rfl, rfl⟩ := hcs
    exact ⟨[], ⟨rfl, Nat.le_refl _, .inl rfl⟩, by decide⟩
  · simp [Value.cells] at hcs
    obtain ⟨rfl, rfl, rfl⟩ := hcs
    have hle : len ≤ m := by rw [hmm]; split <;> omega
    have each : ∀ i, i < m → ∃ s : ByteArray, V i = .string s ∧ D i = .lit (.string s.data.toList) := fun i hi => by
      obtain ⟨s, hs, hd, _⟩ := DataW.trod_string Tryd.underlying9 (hV i hi).2
      exact ⟨s, by simpa using hs, (Prod.mk.inj hd).1⟩
    obtain ⟨S, hS⟩ := choose_lt each
    have hd1 : d = .slice ((List.range len).map D) ((List.range (m - len)).map fun j => D (len + j)) := (Prod.mk.inj hd).1
    rw [hd1] at hb
    simp only [Rows.uptoBulk] at hb
    refine ⟨(List.range len).map S, ⟨by simp, argRow_of hl fun i hi => ?_⟩, ?_⟩
    · rw [(hV i (by omega)).1, (hS i (by omega)).1]
      simp [List.getD, hi]
    · have := bulk_texts D S (List.range len) fun i hi => (hS i (by have := List.mem_range.1 hi; omega)).2
      omega
end
end Go.Proofs.YtfbhddllimfdlaaDoor

/- opening a script of ops {a kind, two numbers, a text} that came in. -/
namespace Go.Proofs.YtfbhddllimfdlaaDoor
set_option linter.unusedVariables false
set_option linter.unusedSimpArgs false
open Go.RowKit Go.ChangeShapes Go.WideShapes Go.Deep
structure OpN where
  k : Int
  a : Int
  n : Int
  s : ByteArray
instance : Inhabited OpN := ⟨⟨0, 0, 0, ByteArray.empty⟩⟩
def OpN.ok (A : OpN) : Prop := (0 ≤ A.k ∧ A.k ≤ 255) ∧ (-9223372036854775808 ≤ A.a ∧ A.a ≤ 9223372036854775807) ∧ (-9223372036854775808 ≤ A.n ∧ A.n ≤ 9223372036854775807)
/-- The cells of a script. -/
def OpsRow (w : World) (a : Option Addr) (len cap : Nat) (Q : List OpN) : Prop :=
  Q.length = len ∧ len ≤ cap ∧ (len = 0 ∨ ∃ b o, a = some ⟨b, o, none⟩ ∧ ∀ i (hi : i < Q.length), w.cell? ⟨b, o + i * 4, none⟩ = some (.int .u8 Q[i].k) ∧ w.cell? ⟨b, o + i * 4 + 1, none⟩ = some (.int .i64 Q[i].a) ∧ w.cell? ⟨b, o + i * 4 + 2, none⟩ = some (.int .i64 Q[i].n) ∧ w.cell? ⟨b, o + i * 4 + 3, none⟩ = some (.string Q[i].s))
def totalQ (Q : List OpN) : Nat := (Q.map fun A => 1 + A.s.size).sum
section
variable {H : Type} {enc : TypeId × Value → H} {w : World} {base : Nat} {spare : Nat → Bool} {held : Bool} {fuel : Nat}
theorem len4q {α : Type} {l : List α} (h : l.length = 4) : ∃ a b c d, l = [a, b, c, d] := by
  match l, h with
  | [a, b, c, d], _ => exact ⟨a, b, c, d, rfl⟩
theorem open_op {cs : List Value} {x : DataW H × List MemPlace} (h : DataW.trod enc Tryd.prog w base spare held fuel 47 cs = some x) :
    ∃ A : OpN, cs = [.int .u8 A.k, .int .i64 A.a, .int .i64 A.n, .string A.s] ∧ A.ok ∧ 1 + A.s.size ≤ Rows.uptoBulk x.1 := by
  obtain ⟨y0, y1, y2, y3, n, hx, hl, h0, h1, h2, h3⟩ := Joins.trod_struct4 Tryd.underlying47 h
  have hC : Tryd.prog.cellsOf 47 = 4 := by kernel_rfl
  have hC0 : Tryd.prog.cellsOf 5 = 1 := by kernel_rfl
  have hC1 : Tryd.prog.cellsOf 3 = 1 := by kernel_rfl
  have hC2 : Tryd.prog.cellsOf 9 = 1 := by kernel_rfl
  rw [hC] at hl
  obtain ⟨c0, c1, c2, c3, rfl⟩ := len4q hl
  have g0 : DataW.trod enc Tryd.prog w base spare held n 5 (([c0, c1, c2, c3].drop 0).take (Tryd.prog.cellsOf 5)) = some y0 := h0
  have g1 : DataW.trod enc Tryd.prog w base spare held n 3 (([c0, c1, c2, c3].drop 1).take (Tryd.prog.cellsOf 3)) = some y1 := h1
  have g2 : DataW.trod enc Tryd.prog w base spare held n 3 (([c0, c1, c2, c3].drop 2).take (Tryd.prog.cellsOf 3)) = some y2 := h2
  have g3 : DataW.trod enc Tryd.prog w base spare held n 9 (([c0, c1, c2, c3].drop 3).take (Tryd.prog.cellsOf 9)) = some y3 := h3
  rw [hC0] at g0
  rw [hC1] at g1 g2
  rw [hC2] at g3
  simp only [List.drop_zero, List.take_succ_cons, List.take_zero, List.drop_succ_cons] at g0 g1 g2 g3
  obtain ⟨k, e0, _, hk⟩ := DataW.trod_int Tryd.underlying5 g0
  obtain ⟨a, e1, _, ha⟩ := DataW.trod_int Tryd.underlying3 g1
  obtain ⟨m, e2, _, hm⟩ := DataW.trod_int Tryd.underlying3 g2
  obtain ⟨s, e3, d3, _⟩ := DataW.trod_string Tryd.underlying9 g3
  simp only [List.cons.injEq, and_true] at e0 e1 e2 e3
  have d3' := congrArg Prod.fst d3
  simp only at d3'
  have hk' : 0 ≤ k ∧ k ≤ 255 := by simpa [Lit.wf, IntKind.min, IntKind.max, IntKind.signed, IntKind.bits] using hk
  have ha' : -9223372036854775808 ≤ a ∧ a ≤ 9223372036854775807 := by simpa [Lit.wf, IntKind.min, IntKind.max, IntKind.signed, IntKind.bits] using ha
  have hm' : -9223372036854775808 ≤ m ∧ m ≤ 9223372036854775807 := by simpa [Lit.wf, IntKind.min, IntKind.max, IntKind.signed, IntKind.bits] using hm
  refine ⟨⟨k, a, m, s⟩, by rw [e0, e1, e2, e3], ⟨hk', ha', hm'⟩, ?_⟩
  rw [hx]
  have e : s.data.toList.length = s.size := by rw [Array.length_toList]; rfl
  simp only [Rows.uptoBulk, Rows.uptoBulkAll, d3']
  omega
theorem bulk_ops (D : Nat → DataW H) (S : Nat → OpN) : ∀ (l : List Nat), (∀ i ∈ l, 1 + (S i).s.size ≤ Rows.uptoBulk (D i)) → totalQ (l.map S) ≤ Rows.uptoBulkAll (l.map D)
  | [], _ => by simp [totalQ]
  | i :: l, h => by
    have h1 := bulk_ops D S l fun j hj => h j (by simp [hj])
    have h2 := h i (by simp)
    unfold totalQ at *
    simp only [List.map_cons, Rows.uptoBulkAll, List.sum_cons]
    omega
/-- A script that came in. -/
theorem ops_arg {a : Option Addr} {len cap : Nat} {d : DataW H} {ps : List MemPlace} (h : DataW.Trod enc Tryd.prog w base spare held 44 (.slice a len cap) d ps) (hb : Rows.uptoBulk d ≤ 1048576) :
    ∃ Q : List OpN, OpsRow w a len cap Q ∧ (∀ A ∈ Q, A.ok) ∧ totalQ Q ≤ 1048576 := by
  obtain ⟨fuel, hf⟩ := h
  have hC : Tryd.prog.cellsOf 47 = 4 := by kernel_rfl
  rcases open_slice Tryd.underlying44 hf with ⟨hcs, _⟩ | ⟨x, l, c, m, n, D, Pl, hcs, _, hl, hm, hmm, hd, hi⟩
  · simp [Value.cells] at hcs
    obtain ⟨rfl, rfl, rfl⟩ := hcs
    exact ⟨[], ⟨rfl, Nat.le_refl _, .inl rfl⟩, by simp, by decide⟩
  · simp [Value.cells] at hcs
    obtain ⟨rfl, rfl, rfl⟩ := hcs
    have hd1 : d = .slice ((List.range len).map D) ((List.range (m - len)).map fun j => D (len + j)) := (Prod.mk.inj hd).1
    rw [hd1] at hb
    simp only [Rows.uptoBulk] at hb
    have hle : len ≤ m := by rw [hmm]; split <;> omega
    have each : ∀ i, i < len → ∃ A : OpN, (∀ j, j < 4 → w.cell? ((x.add (i * 4)).add j) = [.int .u8 A.k, .int .i64 A.a, .int .i64 A.n, .string A.s][j]?) ∧ A.ok ∧ 1 + A.s.size ≤ Rows.uptoBulk (D i) := fun i hii => by
      obtain ⟨cs', h1, h2⟩ := hi i (by omega)
      rw [hC] at h1
      obtain ⟨_, _, h3⟩ := World.cells?_some h1
      obtain ⟨A, rfl, hA⟩ := open_op h2
      exact ⟨A, h3, hA⟩
    obtain ⟨A, hA⟩ := choose_lt each
    refine ⟨(List.range len).map A, ⟨by simp, hl, ?_⟩, fun B hB => ?_, ?_⟩
    · rcases Nat.eq_zero_or_pos len with h0 | h0
      · exact .inl h0
      · have hsp : ∃ b o, x = ⟨b, o, none⟩ := by
          obtain ⟨_, b, o, hx, _⟩ := argRow_of (w := w) (x := x) (len := 1) (cap := 1) (f := fun _ => .int .u8 (A 0).k) (Nat.le_refl _) (fun i hi => by
            have : i = 0 := by omega
            subst this
            have := (hA 0 h0).1 0 (by omega)
            rw [Go.Deep.add_add] at this
            simpa using this) |>.imp id (fun h => h.resolve_left (by omega))
          exact ⟨b, o, Option.some.inj hx⟩
        obtain ⟨b, o, rfl⟩ := hsp
        refine .inr ⟨b, o, rfl, fun i hi => ?_⟩
        have hi' : i < len := by simpa using hi
        have g : ∀ j, j < 4 → w.cell? ⟨b, o + i * 4 + j, none⟩ = [.int .u8 (A i).k, .int .i64 (A i).a, .int .i64 (A i).n, .string (A i).s][j]? := fun j hj => by
          have := (hA i hi').1 j hj
          rw [add_plain, add_plain] at this
          exact this
        simp only [List.getElem_map, List.getElem_range]
        exact ⟨g 0 (by omega), g 1 (by omega), g 2 (by omega), g 3 (by omega)⟩
    · obtain ⟨i, hi, rfl⟩ := List.mem_map.1 hB
      exact (hA i (List.mem_range.1 hi)).2.1
    · have := bulk_ops D A (List.range len) fun i hi => (hA i (List.mem_range.1 hi)).2.2
      omega
end
end Go.Proofs.YtfbhddllimfdlaaDoor

/- law 8: a script that is beyond; what the packs have; all texts. -/
namespace Go.Proofs.YtfbhddllimfdlaaDoor
set_option linter.unusedVariables false
set_option linter.unusedSimpArgs false
open Go.RowKit
theorem OpsRow.below {w w' : World} {a : Option Addr} {len cap : Nat} {Q : List OpN} (h : OpsRow w a len cap Q) (hb : Below w.heap.size w w') : OpsRow w' a len cap Q := by
  refine ⟨h.1, h.2.1, h.2.2.imp id ?_⟩
  rintro ⟨b, o, e, hc⟩
  refine ⟨b, o, e, fun i hi => ?_⟩
  obtain ⟨h0, h1, h2, h3⟩ := hc i hi
  have k : ∀ {j : Nat} {v : Value}, w.cell? ⟨b, j, none⟩ = some v → w'.cell? ⟨b, j, none⟩ = some v := fun {j v} e => by rw [hb.cell (World.block_lt_of_cell? w _ e)]; exact e
  exact ⟨k h0, k h1, k h2, k h3⟩
theorem totalQ_succ {Q : List OpN} {k : Nat} (h : k < Q.length) : totalQ (Q.take (k + 1)) = totalQ (Q.take k) + 1 + Q[k].s.size := by
  unfold totalQ
  rw [List.take_succ_eq_append_getElem h, List.map_append, List.sum_append]
  simp; omega
theorem totalQ_take (Q : List OpN) (k : Nat) : totalQ (Q.take k) ≤ totalQ Q := by
  unfold totalQ
  conv => rhs; rw [← List.take_append_drop k Q]
  rw [List.map_append, List.sum_append]; omega
theorem totalQ_mem : ∀ {Q : List OpN} {A : OpN}, A ∈ Q → A.s.size ≤ totalQ Q
  | [], _, h => by simp at h
  | B :: Q, A, h => by
    unfold totalQ
    simp only [List.map_cons, List.sum_cons]
    rcases List.mem_cons.1 h with rfl | h
    · omega
    · have := totalQ_mem h
      unfold totalQ at this
      omega
set_option maxHeartbeats 1600000 in
set_option maxRecDepth 100000 in
theorem beyond8_any (w : World) (a : Option Addr) (len cap : Nat) (Q : List OpN) (h : OpsRow w a len cap Q) (ht : totalQ Q ≤ 1048576) (hm : len ≤ 1048576) :
    Calls Tryd.prog 20 #[.slice a len cap] w fun e w' => e = .returned (.bool (decide (4000 < len))) ∧ w = w' := by
  have hac := h.2.1
  have HA := Lib.hid h
  have HT := Lib.hid (fun k => Nat.le_trans (totalQ_take Q k) ht)
  clear h ht
  go_enter Tryd.func20, Tryd.ntmps20
  go_wp2_with fail
  go_loop [3, 4] (fun n i => ∃ k : Nat, k ≤ len ∧ i = .int .i64 k ∧ n = .int .i64 (totalQ (Q.take k) : Nat)) (fun _ i => len - (intOf i).toNat)
  case atStart => exact ⟨0, Nat.zero_le _, rfl, rfl⟩
  case round =>
    obtain ⟨k, hk, rfl, rfl⟩ := hrel
    have hT := HT.out k
    by_cases hlt : k < len
    · obtain ⟨b, o, hb, hc⟩ := HA.out.2.2.resolve_left (by omega)
      subst hb
      have hkl : k < Q.length := by rw [HA.out.1]; exact hlt
      obtain ⟨_, _, _, hcell⟩ := hc k hkl
      have HN := Lib.hid (totalQ_succ hkl)
      have hT1 := HT.out (k + 1)
      rw [HN.out] at hT1
      clear hc
      generalize Q[k].s = y at *
      generalize totalQ (Q.take k) = q at *
      have hd : decide ((1048576 : Int) < (q : Int) + 1 + (y.size : Int)) = false := decide_eq_false (by omega)
      go_wp2_with fail
      go_round
      case rel => exact ⟨k + 1, by omega, by go_num, by rw [HN.out]; go_num⟩
      case measure => simp [intOf]; omega
    · obtain rfl : k = len := by omega
      generalize totalQ (Q.take k) = q at *
      by_cases h4 : 4000 < k
      · have hd : decide ((4000 : Int) < (k : Int)) = true := decide_eq_true (by omega)
        have H4 := Lib.hid h4
        clear h4
        go_wp2_with fail
        go_ret
        exact ⟨by rw [decide_eq_true H4.out]; rfl, rfl⟩
      · have hd : decide ((4000 : Int) < (k : Int)) = false := decide_eq_false (by omega)
        have H4 := Lib.hid h4
        clear h4
        go_wp2_with fail
        go_ret
        exact ⟨by rw [decide_eq_false H4.out]; rfl, rfl⟩
section
variable {w : World} {q : Nat} {F : Nat → Prop} {L : List ByteArray} {ls : List Nat}
theorem QuickL.each (h : QuickL w q F L ls) : ∀ x ∈ ls, 1 ≤ x ∧ x ≤ 32 := by
  obtain ⟨Ns, h1, h2, h3, rfl, h4⟩ := h
  intro x hx
  obtain ⟨u, hu, rfl⟩ := List.mem_map.1 hx
  exact ⟨List.length_pos_iff.2 (h2 u hu).1, (h2 u hu).2⟩
theorem QuickL.sum (h : QuickL w q F L ls) : ls.sum = L.length := by
  obtain ⟨Ns, h1, h2, rfl, rfl, h4⟩ := h
  exact lens_flat Ns
theorem QuickL.many (h : QuickL w q F L ls) : ls.length ≤ L.length := by
  rw [← h.sum]
  have he := h.each
  clear h
  induction ls with
  | nil => simp
  | cons x l ih =>
    have := ih fun y hy => he y (by simp [hy])
    have := (he x (by simp)).1
    simp only [List.length_cons, List.sum_cons]; omega
theorem QuickL.lt (h : QuickL w q F L ls) {k : Nat} (hk : F k) : k < w.heap.size := h.toF.lt hk
end
theorem range_all (L : List ByteArray) : rangeT L (rfN L.length 0) (rtN L.length (-1)) = L := by
  unfold rangeT rfN rtN
  rw [if_neg (by omega), if_pos (by omega)]
  rw [List.take_of_length_le (by omega)]
  rfl
theorem qget_at {L : List ByteArray} {k : Nat} (h : k < L.length) : qgetV L (k : Int) = .tuple #[.string (L.getD k ByteArray.empty), .bool true] := by
  have hp : qplN L.length k = k := by unfold qplN; rw [if_neg (by omega)]
  have hb : qplB L.length k = true := by unfold qplB; rw [hp]; simp; omega
  unfold qgetV
  rw [hb, hp]; simp
theorem qget_back {L : List ByteArray} {k : Nat} (h : k < L.length) : qgetV L ((k : Int) - (L.length : Int)) = .tuple #[.string (L.getD k ByteArray.empty), .bool true] := by
  have hp : qplN L.length ((k : Int) - (L.length : Int)) = k := by unfold qplN; rw [if_pos (by omega)]; omega
  have hb : qplB L.length ((k : Int) - (L.length : Int)) = true := by unfold qplB; rw [hp]; simp; omega
  unfold qgetV
  rw [hb, hp]; simp
end Go.Proofs.YtfbhddllimfdlaaDoor

/- The law QuickIsRow: the walk. -/
namespace Go.Proofs.YtfbhddllimfdlaaDoor
set_option linter.unusedVariables false
set_option linter.unusedSimpArgs false
open Go.RowKit
/-- Between two ops: the row and the list. -/
structure RowI (w wr : World) (q : Nat) (lv : Value) (L : List ByteArray) : Prop where
  row : ∃ F ls, QuickL wr q F L ls ∧ (∀ k, F k → w.heap.size ≤ k) ∧ ∀ g, vblock lv = some g → ¬ F g
  below : Below w.heap.size w wr
  sl : SliceIs wr w.heap.size 9 lv L.length (L.map strV)
theorem RowI.below' {w wr w' : World} {q : Nat} {lv : Value} {L : List ByteArray} (h : RowI w wr q lv L) (hb : Below wr.heap.size wr w') : RowI w w' q lv L := by
  obtain ⟨F, ls, h1, h2, h3⟩ := h.row
  exact ⟨⟨F, ls, h1.below hb, h2, h3⟩, h.below.trans (hb.mono h.below.size), h.sl.below hb⟩
theorem RowI.next {w w2 w5 : World} {q : Nat} {F : Nat → Prop} {L : List ByteArray} {ls : List Nat} {v : Value} (hq : QuickL w2 q F L ls) (kF : ∀ k, F k → w.heap.size ≤ k) (hb2 : Below w.heap.size w w2) (hb5 : Below w2.heap.size w2 w5) (hs : SliceIs w5 w2.heap.size 9 v L.length (L.map strV)) : RowI w w5 q v L :=
  ⟨⟨F, ls, hq.below hb5, kF, fun g hg hF => by have := (hs.vb hg).1; have := hq.lt hF; omega⟩, hb2.trans (hb5.mono hb2.size), hs.mono hb2.size⟩
/-- An op that left the row's texts. -/
theorem RowI.step {w w1 w2 : World} {q : Nat} {lv : Value} {L : List ByteArray} {F F2 : Nat → Prop} {ls2 : List Nat} (h : RowI w w1 q lv L) (kF : (∀ k, F k → w.heap.size ≤ k) ∧ ∀ g, vblock lv = some g → ¬ F g) (q2 : QuickL w2 q F2 L ls2) (f2 : Fresh w1 F F2) (c2 : Chg F w1 w2) : RowI w w2 q lv L := by
  refine ⟨⟨F2, ls2, q2, fun k hk => (f2 k hk).elim (kF.1 k) fun h' => Nat.le_trans h.below.size h', fun g hg hF => ?_⟩, belowChg h.below c2 h.below.size fun k hk _ => kF.1 k hk, h.sl.chg c2 fun k hk hF => kF.2 k hk hF⟩
  rcases f2 g hF with h1 | h1
  · exact kF.2 g hg h1
  · have := (h.sl.vb hg).2.1; omega
theorem src_take {w : World} {B : Nat} {al : Option Addr} {n cl : Nat} {L : List ByteArray} (hs : SliceIs w B 9 (.slice al n cl) n (L.map strV)) {m : Nat} (hm : m ≤ n) : m = 0 ∨ ∃ b o, al = some ⟨b, o, none⟩ ∧ ∀ i, i < m → w.cell? ⟨b, o + i, none⟩ = some (.string ((L.take m).getD i ByteArray.empty)) := by
  obtain ⟨a, c, e, hA⟩ := texts_of_slice hs
  injection e with e1 _ e3
  subst e1 e3
  rcases hA.2 with h | ⟨b, o, e, hc⟩
  · exact .inl (by omega)
  · exact .inr ⟨b, o, e, fun i hi => by rw [hc i (by omega)]; simp [List.getD, List.getElem?_take, hi]⟩
theorem src_drop {w : World} {B : Nat} {al : Option Addr} {n cl : Nat} {L : List ByteArray} (hs : SliceIs w B 9 (.slice al n cl) n (L.map strV)) {m : Nat} (hm : m ≤ n) : n - m = 0 ∨ ∃ b o, afterT al cl m = some ⟨b, o, none⟩ ∧ ∀ i, i < n - m → w.cell? ⟨b, o + i, none⟩ = some (.string ((L.drop m).getD i ByteArray.empty)) := by
  obtain ⟨a, c, e, hA⟩ := texts_of_slice hs
  injection e with e1 _ e3
  subst e1 e3
  have hcl := hA.1
  rcases hA.2 with h | ⟨b, o, e, hc⟩
  · exact .inl (by omega)
  · by_cases hq : cl = m
    · exact .inl (by omega)
    · refine .inr ⟨b, o + m, by rw [e]; simp [afterT, hq], fun i hi => ?_⟩
      rw [show o + m + i = o + (m + i) by omega, hc (m + i) (by omega)]
      simp [List.getD, List.getElem?_drop]
/-- 'append(append(append(nil, l[:m]...), s), l[m:]...)'. -/
theorem ins_runs {w2 : World} {B : Nat} {al : Option Addr} {n cl : Nat} {L : List ByteArray} (hB : B ≤ w2.heap.size) (hs : SliceIs w2 B 9 (.slice al n cl) n (L.map strV)) {m : Nat} (hm : m ≤ n) (s : ByteArray) (hn : n ≤ 1000000) :
    ∃ a1 c1 w3 a2 c2 w4 a3 c3 w5, (Builtin.append_ #[35, 35] 35 #[.slice none 0 0, .slice al m cl]).run Tryd.prog w2 = .ok (.slice a1 m c1) w3 ∧
      (Builtin.append_ #[35, 35] 35 #[.slice a1 m c1, .slice (some ⟨w3.heap.size, 0, none⟩) 1 1]).run Tryd.prog (w3.alloc (.cells #[.string s] 9)) = .ok (.slice a2 (m + 1) c2) w4 ∧
      (Builtin.append_ #[35, 35] 35 #[.slice a2 (m + 1) c2, .slice (afterT al cl m) (n - m) (cl - m)]).run Tryd.prog w4 = .ok (.slice a3 (n + 1) c3) w5 ∧
      Below w2.heap.size w2 w3 ∧ Below w2.heap.size w2 w4 ∧ Below w2.heap.size w2 w5 ∧ SliceIs w5 w2.heap.size 9 (.slice a3 (n + 1) c3) (n + 1) ((L.take m ++ [s] ++ L.drop m).map strV) := by
  have hl : L.length = n := by simpa using hs.1
  obtain ⟨v1, w3, r1, s1, b3⟩ := append_texts (a := al) (c := cl) (xs := []) (ys := L.take m) (m := m) (SliceIs.nil w2 w2.heap.size 9) (Nat.le_refl _) (by rw [List.length_take]; omega) (src_take hs hm) (by omega)
  rw [Nat.zero_add, List.nil_append] at s1
  obtain ⟨a1, c1, rfl, _⟩ := texts_of_slice s1
  obtain ⟨i0, g1, g2, g3, g4⟩ := info_parts info_str
  obtain ⟨v2, w4, r2, s2, b4⟩ := run_append_one (P := Tryd.prog) (t := 35) (ty := 35) Tryd.underlying35 g1 g2 g3 g4 rfl s1 b3.size (.string s) rfl (by unfold maxLen; omega) (by omega)
  rw [show (L.take m).map strV ++ [.string s] = (L.take m ++ [s]).map strV by rw [List.map_append]; rfl] at s2
  obtain ⟨a2, c2, rfl, _⟩ := texts_of_slice s2
  have b24 := b3.trans b4
  obtain ⟨v3, w5, r3, s3, b5⟩ := append_texts (a := afterT al cl m) (c := cl - m) (ys := L.drop m) (m := n - m) s2 b24.size (by rw [List.length_drop]; omega) (src_drop (hs.below b24) hm) (by omega)
  obtain ⟨a3, c3, rfl, _⟩ := texts_of_slice s3
  rw [show m + 1 + (n - m) = n + 1 by omega] at r3 s3
  exact ⟨a1, c1, w3, a2, c2, w4, a3, c3, w5, r1, r2, r3, b3, b24, b24.trans b5, s3⟩
/-- 'append(append(nil, l[:m]...), l[j:]...)'. -/
theorem del_runs {w2 : World} {B : Nat} {al : Option Addr} {n cl : Nat} {L : List ByteArray} (hB : B ≤ w2.heap.size) (hs : SliceIs w2 B 9 (.slice al n cl) n (L.map strV)) {m j : Nat} (hm : m ≤ j) (hj : j ≤ n) (hn : n ≤ 1000000) :
    ∃ a1 c1 w3 a3 c3 w5, (Builtin.append_ #[35, 35] 35 #[.slice none 0 0, .slice al m cl]).run Tryd.prog w2 = .ok (.slice a1 m c1) w3 ∧
      (Builtin.append_ #[35, 35] 35 #[.slice a1 m c1, .slice (afterT al cl j) (n - j) (cl - j)]).run Tryd.prog w3 = .ok (.slice a3 (m + (n - j)) c3) w5 ∧
      Below w2.heap.size w2 w3 ∧ Below w2.heap.size w2 w5 ∧ SliceIs w5 w2.heap.size 9 (.slice a3 (m + (n - j)) c3) (m + (n - j)) ((L.take m ++ L.drop j).map strV) := by
  have hl : L.length = n := by simpa using hs.1
  obtain ⟨v1, w3, r1, s1, b3⟩ := append_texts (a := al) (c := cl) (xs := []) (ys := L.take m) (m := m) (SliceIs.nil w2 w2.heap.size 9) (Nat.le_refl _) (by rw [List.length_take]; omega) (src_take hs (by omega)) (by omega)
  rw [Nat.zero_add, List.nil_append] at s1
  obtain ⟨a1, c1, rfl, _⟩ := texts_of_slice s1
  obtain ⟨v3, w5, r3, s3, b5⟩ := append_texts (a := afterT al cl j) (c := cl - j) (ys := L.drop j) (m := n - j) s1 b3.size (by rw [List.length_drop]; omega) (src_drop (hs.below b3) hj) (by omega)
  obtain ⟨a3, c3, rfl, _⟩ := texts_of_slice s3
  exact ⟨a1, c1, w3, a3, c3, w5, r1, r3, b3, b3.trans b5, s3⟩
set_option maxHeartbeats 200000000 in
set_option maxRecDepth 100000 in
theorem quickIsRow_walk {w : World} (hl : Laid w) (a : Option Addr) (n cap : Nat) (Q : List OpN) (hQ : OpsRow w a n cap Q) (hok : ∀ A ∈ Q, A.ok) (ht : totalQ Q ≤ 1048576) :
    Calls Tryd.prog 5 #[.slice a n cap] w fun e w' => e = .returned (.bool true) ∧ Below w.heap.size w w' := by
  have hn : n ≤ 1048576 := by
    have h1 := hQ.1
    have : Q.length ≤ totalQ Q := by
      clear hQ hok ht h1
      induction Q with
      | nil => simp
      | cons B Q ih => unfold totalQ at *; simp only [List.map_cons, List.sum_cons, List.length_cons]; omega
    omega
  have hac := hQ.2.1
  have HLd := Lib.hid (fun w' (hb : Below w.heap.size w w') => hl.below hb)
  have HAl := Lib.hid (fun w' (hb : Below w.heap.size w w') => alive8_any (hl.below hb))
  have HOps := Lib.hid (fun w' (hb : Below w.heap.size w w') => hQ.below hb)
  have HOk := Lib.hid (And.intro hok (And.intro (fun A (hA : A ∈ Q) => Nat.le_trans (totalQ_mem hA) ht) hQ.1))
  have HBe := Lib.hid (fun w' (hb : Below w.heap.size w w') => beyond8_any w' a n cap Q (hQ.below hb) ht hn)
  clear hl hQ hok ht
  go_enter Tryd.func5, Tryd.ntmps5
  go_wp2_with fail
  refine (HAl.out _ (Below.refl _ _)).mono ?_
  rintro e w1 ⟨rfl, b1⟩
  have B1 := Lib.hid b1
  have HBe1 := Lib.hid (HBe.out _ b1)
  clear b1
  by_cases h4 : 4000 < n
  · rw [decide_eq_true h4] at HBe1
    clear h4
    go_wp2_with fail
    refine HBe1.out.mono ?_
    rintro e w' ⟨rfl, rfl⟩
    go_wp2_with fail
    refine (HAl.out _ B1.out).mono ?_
    rintro e w3 ⟨rfl, b3⟩
    have B3 := Lib.hid (B1.out.trans (b3.mono B1.out.size))
    clear b3
    go_wp2_with fail
    go_ret
    exact ⟨rfl, B3.out⟩
  · rw [decide_eq_false h4] at HBe1
    by_cases h5 : 1000 < n
    · have d5 : decide ((1000 : Int) < (n : Int)) = true := decide_eq_true (by omega)
      go_wp2_with fail
      refine HBe1.out.mono ?_
      rintro e w' ⟨rfl, rfl⟩
      go_wp2_with fail
      refine (HAl.out _ B1.out).mono ?_
      rintro e w3 ⟨rfl, b3⟩
      have B3 := Lib.hid (B1.out.trans (b3.mono B1.out.size))
      clear b3
      go_wp2_with fail
      go_ret
      exact ⟨rfl, B3.out⟩
    · have d5 : decide ((1000 : Int) < (n : Int)) = false := decide_eq_false (by omega)
      have HN := Lib.hid (quickNew w1)
      go_wp2_with fail
      refine HBe1.out.mono ?_
      rintro e w' ⟨rfl, rfl⟩
      go_wp2_with fail
      refine HN.out.mono ?_
      rintro e w2 ⟨rfl, q2, b2⟩
      have HI0 := Lib.hid (show RowI w w2 w1.heap.size (.slice none 0 0) [] from ⟨⟨_, _, q2, fun k hk => by have := B1.out.size; omega, fun g hg => by cases hg⟩, B1.out.trans (b2.mono B1.out.size), SliceIs.nil _ _ _⟩)
      obtain ⟨q, hq⟩ : ∃ q, q = w1.heap.size := ⟨_, rfl⟩
      rw [← hq] at HI0 ⊢
      clear q2 b2 hq HN d5 HBe1 h4
      go_wp2_with fail
      go_loopw [4, 5] (fun lv iv wr => ∃ (k : Nat) (L : List ByteArray) (n1 : Nat) (al : Option Addr) (cl : Nat), k ≤ n ∧ iv = .int .i64 k ∧ lv = .slice al n1 cl ∧ n1 ≤ k ∧ Hid (L.length = n1 ∧ RowI w wr q (.slice al n1 cl) L)) (fun _ iv _ => n - (intOf iv).toNat)
      case atStart => exact ⟨0, [], 0, none, 0, Nat.zero_le _, rfl, rfl, Nat.le_refl _, Lib.hid ⟨rfl, HI0.out⟩⟩
      case round =>
        obtain ⟨k, L, n1, al, cl, hk, rfl, rfl, hn1, hI⟩ := hrel
        by_cases hlt : k < n
        · obtain ⟨b, o, hb, hc⟩ := (HOps.out wr hI.out.2.below).2.2.resolve_left (by omega)
          subst hb
          have hkl : k < Q.length := by rw [HOk.out.2.2]; exact hlt
          obtain ⟨x0, x1, x2, x3⟩ := hc k hkl
          have hopk := HOk.out.1 Q[k] (List.getElem_mem hkl)
          have hszk := HOk.out.2.1 Q[k] (List.getElem_mem hkl)
          obtain ⟨A, hA⟩ : ∃ A, Q[k] = A := ⟨_, rfl⟩
          rw [hA] at x0 x1 x2 x3 hopk hszk
          obtain ⟨ka, aa, na, sa⟩ := A
          simp only at x0 x1 x2 x3 hszk
          obtain ⟨_, haa, hna⟩ := hopk
          simp only at haa hna
          obtain ⟨w1x, hw1⟩ : ∃ w1x, w1x = wr.alloc (.cells #[.int .u8 ka, .int .i64 aa, .int .i64 na, .string sa] 47) := ⟨_, rfl⟩
          have hb1 : Below wr.heap.size wr w1x := by rw [hw1]; exact (Below.refl _ _).alloc (Nat.le_refl _) _
          have hh1 : w1x.heap[wr.heap.size]? = some (.cells #[.int .u8 ka, .int .i64 aa, .int .i64 na, .string sa] 47 (0, 0)) := by rw [hw1]; exact heap_new _ _
          have y0 := cell_in hh1 (i := 0) rfl
          have y1 := cell_in hh1 (i := 1) rfl
          have y2 := cell_in hh1 (i := 2) rfl
          have y3 := cell_in hh1 (i := 3) rfl
          have HI1 := Lib.hid (hI.out.2.below' hb1)
          obtain ⟨F, ls, hqL, kF, kg⟩ := hI.out.2.row
          have hcF : ¬ F wr.heap.size := fun h => by have := hqL.lt h; omega
          have hqL1 := hqL.below hb1
          have KF := Lib.hid (And.intro kF kg)
          have HW1 := Lib.hid hw1
          have HH := Lib.hid (And.intro hh1 hcF)
          have hL1 := hI.out.1
          have hBw : Below w.heap.size w w1x := HI1.out.below
          clear hc hA hkl hw1 hb1 hh1 hqL kF kg hcF
          go_upto_block 2 with (fail)
          rw [← HW1.out]
          go_cut [4, 7, 8, 9, 10] from 32 to 176 (fun lv _ _ _ _ wz => ∃ (L2 : List ByteArray) (n2 : Nat) (a2 : Option Addr) (c2 : Nat), lv = .slice a2 n2 c2 ∧ n2 ≤ k + 1 ∧ Hid (L2.length = n2 ∧ RowI w wz q (.slice a2 n2 c2) L2))
          case first =>
            by_cases hk1 : ka = 1
            · subst hk1
              have HIn := Lib.hid (quickInsertL (HLd.out _ (Below.refl _ _)) hBw hBw.size hqL1 KF.out.1 aa haa sa (by omega))
              clear hqL1 hBw
              by_cases ca : 0 ≤ aa
              · obtain ⟨m, rfl⟩ : ∃ m : Nat, aa = (m : Int) := ⟨aa.toNat, by omega⟩
                by_cases cb : m ≤ n1
                · have db : decide ((m : Int) ≤ (n1 : Int)) = true := decide_eq_true (by omega)
                  have db' : decide (m ≤ n1) = true := decide_eq_true cb
                  by_cases cc : sa.size ≤ 65536
                  · have dc : decide ((sa.size : Int) ≤ 65536) = true := decide_eq_true (by omega)
                    rw [show insQ L (m : Int) sa = (0, L.take m ++ [sa] ++ L.drop m) by unfold insQ; rw [if_neg (by omega), if_neg (by omega), Int.toNat_natCast]] at HIn
                    go_wp2_with fail
                    refine HIn.out.mono ?_
                    rintro e w2 ⟨rfl, ⟨F2, q2, f2⟩, c2x⟩
                    have KF2 : ∀ k, F2 k → w.heap.size ≤ k := fun k hk => (f2 k hk).elim (KF.out.1 k) fun h' => Nat.le_trans HI1.out.below.size h'
                    have hb2 : Below w.heap.size w w2 := belowChg HI1.out.below c2x HI1.out.below.size fun k hk _ => KF.out.1 k hk
                    have hs2 : SliceIs w2 w.heap.size 9 (.slice al n1 cl) n1 (L.map strV) := hI.out.1 ▸ (HI1.out.sl.chg c2x fun g hg hF => KF.out.2 g hg hF)
                    have hh2 := c2x.keep HH.out.1 HH.out.2
                    obtain ⟨a1, c1, w3, a2v, c2v, w4, a2, c2, w5, r1, r2, r3, b23, b24, b25, s5⟩ := ins_runs hb2.size hs2 cb sa (by omega)
                    have hlt2 := heap_lt hh2
                    have hh3 := (b23.block _ hlt2).trans hh2
                    have hh4 := (b24.block _ hlt2).trans hh2
                    have z1 := cell_in hh2 (i := 1) rfl
                    have z3 := cell_in hh3 (i := 3) rfl
                    have z4 := cell_in hh4 (i := 1) rfl
                    obtain ⟨L2, hL2⟩ : ∃ L2, L.take m ++ [sa] ++ L.drop m = L2 := ⟨_, rfl⟩
                    have hL2l : L2.length = n1 + 1 := by rw [← hL2]; simp only [List.length_append, List.length_take, List.length_drop, List.length_singleton]; omega
                    obtain ⟨n2, hn2⟩ : ∃ n2, n1 + 1 = n2 := ⟨_, rfl⟩
                    have HI2 := Lib.hid (show L2.length = n2 ∧ RowI w w5 q (.slice a2 n2 c2) L2 from ⟨hL2l.trans hn2, RowI.next (hL2 ▸ q2) KF2 hb2 b25 (by rw [hL2l, ← hn2, ← hL2]; exact s5)⟩)
                    rw [hn2] at r3
                    have HR1 := Lib.hid r1
                    have HR2 := Lib.hid r2
                    have HR3 := Lib.hid r3
                    have hn2k : n2 ≤ k + 1 := by omega
                    have hcl : n1 ≤ cl := by
                      obtain ⟨_, _, e, hA⟩ := texts_of_slice hs2
                      injection e with _ _ e3
                      subst e3
                      exact hA.1
                    have hform : (al = none ∧ m = 0 ∧ cl = 0) ∨ ∃ g, al = some ⟨g, 0, none⟩ := by
                      rcases hs2.2 with ⟨e, h0⟩ | ⟨g, cap', cur, e, _⟩
                      · injection e with e1 e2 e3
                        exact .inl ⟨e1, by omega, e3⟩
                      · injection e with e1 e2 e3
                        exact .inr ⟨g, e1⟩
                    clear q2 f2 c2x HIn KF2 hb2 hs2 hh2 hh3 hh4 r1 r2 r3 b23 b24 b25 s5 hL2 hL2l hn2 hL1 HI1
                    rcases hform with ⟨rfl, rfl, rfl⟩ | ⟨g, rfl⟩
                    · rw [show afterT none 0 0 = none from rfl] at HR3
                      obtain rfl : n1 = 0 := by omega
                      simp only [Nat.sub_self] at HR3
                      go_upto_region 16 with (fail)
                      go_upto_region 17 with (at_builtin; refine wpList_append_run rfl rfl HR1.out ?_)
                      go_upto_region 18 with (at_builtin; refine wpList_append_run rfl rfl HR2.out ?_)
                      go_wp2_with (at_builtin; refine wpList_append_run rfl rfl HR3.out ?_)
                      go_meet
                      case rel => exact ⟨L2, n2, a2, c2, rfl, by omega, HI2⟩
                    · by_cases hq : cl = m
                      · rw [show afterT (some ⟨g, 0, none⟩) cl m = some ⟨g, 0, none⟩ by simp [afterT, hq]] at HR3
                        subst hq
                        obtain rfl : n1 = cl := by omega
                        simp only [Nat.sub_self] at HR3
                        go_upto_region 16 with (fail)
                        go_upto_region 17 with (at_builtin; refine wpList_append_run rfl rfl HR1.out ?_)
                        go_upto_region 18 with (at_builtin; refine wpList_append_run rfl rfl HR2.out ?_)
                        go_wp2_with (at_builtin; refine wpList_append_run rfl rfl HR3.out ?_)
                        go_meet
                        case rel => exact ⟨L2, n2, a2, c2, rfl, by omega, HI2⟩
                      · rw [show afterT (some ⟨g, 0, none⟩) cl m = some ⟨g, 0 + m, none⟩ by simp [afterT, hq], Nat.zero_add] at HR3
                        go_upto_region 16 with (fail)
                        go_upto_region 17 with (at_builtin; refine wpList_append_run rfl rfl HR1.out ?_)
                        go_upto_region 18 with (at_builtin; refine wpList_append_run rfl rfl HR2.out ?_)
                        go_wp2_with (at_builtin; refine wpList_append_run rfl rfl HR3.out ?_)
                        go_meet
                        case rel => exact ⟨L2, n2, a2, c2, rfl, by omega, HI2⟩
                  · have dc : decide ((sa.size : Int) ≤ 65536) = false := decide_eq_false (by omega)
                    rw [show insQ L (m : Int) sa = (3, L) by unfold insQ; rw [if_neg (by omega), if_pos (by omega)]] at HIn
                    clear hL1
                    go_wp2_with fail
                    refine HIn.out.mono ?_
                    rintro e w2 ⟨rfl, ⟨F2, q2, f2⟩, c2x⟩
                    have HI2 := Lib.hid (show L.length = n1 ∧ RowI w w2 q (.slice al n1 cl) L from ⟨hI.out.1, HI1.out.step KF.out q2 f2 c2x⟩)
                    clear q2 f2 c2x HIn
                    go_wp2_with fail
                    go_meet
                    case rel => exact ⟨L, n1, al, cl, rfl, by omega, HI2⟩
                · have db : decide ((m : Int) ≤ (n1 : Int)) = false := decide_eq_false (by omega)
                  have db' : decide (m ≤ n1) = false := decide_eq_false cb
                  rw [show insQ L (m : Int) sa = (1, L) by unfold insQ; rw [if_pos (by omega)]] at HIn
                  clear hL1
                  go_wp2_with fail
                  refine HIn.out.mono ?_
                  rintro e w2 ⟨rfl, ⟨F2, q2, f2⟩, c2x⟩
                  have HI2 := Lib.hid (show L.length = n1 ∧ RowI w w2 q (.slice al n1 cl) L from ⟨hI.out.1, HI1.out.step KF.out q2 f2 c2x⟩)
                  clear q2 f2 c2x HIn
                  go_wp2_with fail
                  go_meet
                  case rel => exact ⟨L, n1, al, cl, rfl, by omega, HI2⟩
              · have da : decide (0 ≤ aa) = false := decide_eq_false ca
                rw [show insQ L aa sa = (1, L) by unfold insQ; rw [if_pos (by omega)]] at HIn
                clear hL1
                go_wp2_with fail
                refine HIn.out.mono ?_
                rintro e w2 ⟨rfl, ⟨F2, q2, f2⟩, c2x⟩
                have HI2 := Lib.hid (show L.length = n1 ∧ RowI w w2 q (.slice al n1 cl) L from ⟨hI.out.1, HI1.out.step KF.out q2 f2 c2x⟩)
                clear q2 f2 c2x HIn
                go_wp2_with fail
                go_meet
                case rel => exact ⟨L, n1, al, cl, rfl, by omega, HI2⟩
            · by_cases hk3 : ka = 3
              · subst hk3
                have HIn := Lib.hid (quickDelete (HLd.out _ (Below.refl _ _)) hBw hBw.size hqL1.toF KF.out.1 (by omega) aa na haa hna)
                clear hqL1 hBw hk1
                by_cases ca : 0 ≤ aa
                · obtain ⟨m, rfl⟩ : ∃ m : Nat, aa = (m : Int) := ⟨aa.toNat, by omega⟩
                  by_cases cb : m ≤ n1
                  · have db : decide ((m : Int) ≤ (n1 : Int)) = true := decide_eq_true (by omega)
                    have db' : decide (m ≤ n1) = true := decide_eq_true cb
                    by_cases cc : 0 ≤ na
                    · obtain ⟨r, rfl⟩ : ∃ r : Nat, na = (r : Int) := ⟨na.toNat, by omega⟩
                      by_cases cd : m + r ≤ n1
                      · have dd : decide ((r : Int) ≤ (n1 : Int) - (m : Int)) = true := decide_eq_true (by omega)
                        rw [delP_ok (show m + r ≤ L.length by omega)] at HIn
                        go_wp2_with fail
                        refine HIn.out.mono ?_
                        rintro e w2 ⟨rfl, ⟨F2, q2, f2⟩, c2x⟩
                        have KF2 : ∀ k, F2 k → w.heap.size ≤ k := fun k hk => (f2 k hk).elim (KF.out.1 k) fun h' => Nat.le_trans HI1.out.below.size h'
                        have hb2 : Below w.heap.size w w2 := belowChg HI1.out.below c2x HI1.out.below.size fun k hk _ => KF.out.1 k hk
                        have hs2 : SliceIs w2 w.heap.size 9 (.slice al n1 cl) n1 (L.map strV) := hI.out.1 ▸ (HI1.out.sl.chg c2x fun g hg hF => KF.out.2 g hg hF)
                        have hh2 := c2x.keep HH.out.1 HH.out.2
                        obtain ⟨a1, c1, w3, a2, c2, w5, r1, r3, b23, b25, s5⟩ := del_runs hb2.size hs2 (Nat.le_add_right m r) cd (by omega)
                        have hlt2 := heap_lt hh2
                        have hh3 := (b23.block _ hlt2).trans hh2
                        have z1 := cell_in hh2 (i := 1) rfl
                        have z4 := cell_in hh3 (i := 1) rfl
                        have z5 := cell_in hh3 (i := 2) rfl
                        obtain ⟨L2, hL2⟩ : ∃ L2, L.take m ++ L.drop (m + r) = L2 := ⟨_, rfl⟩
                        obtain ⟨n2, hn2⟩ : ∃ n2, m + (n1 - (m + r)) = n2 := ⟨_, rfl⟩
                        have hL2l : L2.length = n2 := by rw [← hL2, ← hn2]; simp only [List.length_append, List.length_take, List.length_drop]; omega
                        obtain ⟨ls2, q2⟩ := q2.toL
                        have HI2 := Lib.hid (show L2.length = n2 ∧ RowI w w5 q (.slice a2 n2 c2) L2 from ⟨hL2l, RowI.next (hL2 ▸ q2) KF2 hb2 b25 (by rw [hL2l, ← hn2, ← hL2]; exact s5)⟩)
                        rw [hn2] at r3
                        have HR1 := Lib.hid r1
                        have HR3 := Lib.hid r3
                        have hn2k : n2 ≤ k + 1 := by omega
                        have hcl : n1 ≤ cl := by
                          obtain ⟨_, _, e, hA⟩ := texts_of_slice hs2
                          injection e with _ _ e3
                          subst e3
                          exact hA.1
                        have hform : (al = none ∧ m = 0 ∧ r = 0 ∧ cl = 0) ∨ ∃ g, al = some ⟨g, 0, none⟩ := by
                          rcases hs2.2 with ⟨e, h0⟩ | ⟨g, cap', cur, e, _⟩
                          · injection e with e1 e2 e3
                            exact .inl ⟨e1, by omega, by omega, e3⟩
                          · injection e with e1 e2 e3
                            exact .inr ⟨g, e1⟩
                        clear q2 f2 c2x HIn KF2 hb2 hs2 hh2 hh3 r1 r3 b23 b25 s5 hL2 hL2l hn2 hL1 HI1
                        rcases hform with ⟨rfl, rfl, rfl, rfl⟩ | ⟨g, rfl⟩
                        · rw [show afterT none 0 (0 + 0) = none from rfl] at HR3
                          obtain rfl : n1 = 0 := by omega
                          simp only [Nat.add_zero, Nat.sub_self] at HR3
                          go_upto_region 25 with (fail)
                          go_upto_region 26 with (at_builtin; refine wpList_append_run rfl rfl HR1.out ?_)
                          go_wp2_with (at_builtin; refine wpList_append_run rfl rfl HR3.out ?_)
                          go_meet
                          case rel => exact ⟨L2, n2, a2, c2, rfl, by omega, HI2⟩
                        · by_cases hq : cl = m + r
                          · rw [show afterT (some ⟨g, 0, none⟩) cl (m + r) = some ⟨g, 0, none⟩ by simp [afterT, hq]] at HR3
                            go_upto_region 25 with (fail)
                            go_upto_region 26 with (at_builtin; refine wpList_append_run rfl rfl HR1.out ?_)
                            go_wp2_with (at_builtin; refine wpList_append_run rfl rfl HR3.out ?_)
                            go_meet
                            case rel => exact ⟨L2, n2, a2, c2, rfl, by omega, HI2⟩
                          · rw [show afterT (some ⟨g, 0, none⟩) cl (m + r) = some ⟨g, 0 + (m + r), none⟩ by simp [afterT, hq], Nat.zero_add] at HR3
                            go_upto_region 25 with (fail)
                            go_upto_region 26 with (at_builtin; refine wpList_append_run rfl rfl HR1.out ?_)
                            go_wp2_with (at_builtin; refine wpList_append_run rfl rfl HR3.out ?_)
                            go_meet
                            case rel => exact ⟨L2, n2, a2, c2, rfl, by omega, HI2⟩
                      · have dd : decide ((r : Int) ≤ (n1 : Int) - (m : Int)) = false := decide_eq_false (by omega)
                        rw [show delP L (m : Int) (r : Int) = (1, L) by unfold delP; rw [if_pos (by omega)]] at HIn
                        clear hL1
                        go_wp2_with fail
                        refine HIn.out.mono ?_
                        rintro e w2 ⟨rfl, ⟨F2, q2, f2⟩, c2x⟩
                        obtain ⟨ls2, q2⟩ := q2.toL
                        have HI2 := Lib.hid (show L.length = n1 ∧ RowI w w2 q (.slice al n1 cl) L from ⟨hI.out.1, HI1.out.step KF.out q2 f2 c2x⟩)
                        clear q2 f2 c2x HIn
                        go_wp2_with fail
                        go_meet
                        case rel => exact ⟨L, n1, al, cl, rfl, by omega, HI2⟩
                    · have dc : decide (0 ≤ na) = false := decide_eq_false cc
                      rw [show delP L (m : Int) na = (1, L) by unfold delP; rw [if_pos (by omega)]] at HIn
                      clear hL1
                      go_wp2_with fail
                      refine HIn.out.mono ?_
                      rintro e w2 ⟨rfl, ⟨F2, q2, f2⟩, c2x⟩
                      obtain ⟨ls2, q2⟩ := q2.toL
                      have HI2 := Lib.hid (show L.length = n1 ∧ RowI w w2 q (.slice al n1 cl) L from ⟨hI.out.1, HI1.out.step KF.out q2 f2 c2x⟩)
                      clear q2 f2 c2x HIn
                      go_wp2_with fail
                      go_meet
                      case rel => exact ⟨L, n1, al, cl, rfl, by omega, HI2⟩
                  · have db : decide ((m : Int) ≤ (n1 : Int)) = false := decide_eq_false (by omega)
                    have db' : decide (m ≤ n1) = false := decide_eq_false cb
                    rw [show delP L (m : Int) na = (1, L) by unfold delP; rw [if_pos (by omega)]] at HIn
                    clear hL1
                    go_wp2_with fail
                    refine HIn.out.mono ?_
                    rintro e w2 ⟨rfl, ⟨F2, q2, f2⟩, c2x⟩
                    obtain ⟨ls2, q2⟩ := q2.toL
                    have HI2 := Lib.hid (show L.length = n1 ∧ RowI w w2 q (.slice al n1 cl) L from ⟨hI.out.1, HI1.out.step KF.out q2 f2 c2x⟩)
                    clear q2 f2 c2x HIn
                    go_wp2_with fail
                    go_meet
                    case rel => exact ⟨L, n1, al, cl, rfl, by omega, HI2⟩
                · have da : decide (0 ≤ aa) = false := decide_eq_false ca
                  rw [show delP L aa na = (1, L) by unfold delP; rw [if_pos (by omega)]] at HIn
                  clear hL1
                  go_wp2_with fail
                  refine HIn.out.mono ?_
                  rintro e w2 ⟨rfl, ⟨F2, q2, f2⟩, c2x⟩
                  obtain ⟨ls2, q2⟩ := q2.toL
                  have HI2 := Lib.hid (show L.length = n1 ∧ RowI w w2 q (.slice al n1 cl) L from ⟨hI.out.1, HI1.out.step KF.out q2 f2 c2x⟩)
                  clear q2 f2 c2x HIn
                  go_wp2_with fail
                  go_meet
                  case rel => exact ⟨L, n1, al, cl, rfl, by omega, HI2⟩
              · have e1 : (ka == 1) = false := by rw [beq_eq_false_iff_ne]; exact hk1
                have e3 : (ka == 3) = false := by rw [beq_eq_false_iff_ne]; exact hk3
                have HI2 := Lib.hid (show L.length = n1 ∧ RowI w w1x q (.slice al n1 cl) L from ⟨hL1, HI1.out⟩)
                clear hqL1 hBw hL1 HI1
                go_wp2_with fail
                go_meet
                case rel => exact ⟨L, n1, al, cl, rfl, by omega, HI2⟩
          case rest =>
            obtain ⟨L2, n2, a2, c2, rfl, hn2k, HI2⟩ := hcut
            clear x0 x1 x2 x3 y0 y1 y2 y3 hqL1 hBw hL1 HI1 HH KF hI haa hna hszk
            obtain ⟨Fz, lz, hqz, kFz, _⟩ := HI2.out.2.row
            have HPk := Lib.hid (quickPacks hqz (by have := HI2.out.1; omega))
            have HEa := Lib.hid (And.intro hqz.each (And.intro (hqz.sum.trans HI2.out.1) hqz))
            clear hqz kFz
            go_wp2_with fail
            refine HPk.out.mono ?_
            rintro e wp ⟨⟨vp, rfl, sp⟩, bp⟩
            obtain ⟨ap, cp, rfl, hAp⟩ := sp.arg
            have HAp := Lib.hid hAp
            have hcp := hAp.1
            have hlz : lz.length ≤ 1001 := by have := HEa.out.2.2.many; have := HI2.out.1; omega
            have HIp := Lib.hid (HI2.out.2.below' bp)
            have HLq := Lib.hid (quickLen ((HEa.out.2.2.below bp).toF))
            rw [HI2.out.1] at HLq
            clear sp bp hAp HPk
            go_wp2_with fail
            go_loopw [12, 13] (fun nv kv wr2 => ∃ j : Nat, j ≤ lz.length ∧ kv = .int .i64 j ∧ nv = .int .i64 ((lz.take j).sum : Nat) ∧ wr2 = wp) (fun _ kv _ => lz.length - (intOf kv).toNat)
            case atStart => exact ⟨0, Nat.zero_le _, rfl, rfl, rfl⟩
            case round =>
              obtain ⟨j, hj, rfl, rfl, rfl⟩ := hrel
              have hsb : (lz.take j).sum ≤ n2 := by
                have := HEa.out.2.1
                have h9 := congrArg List.sum (List.take_append_drop j lz)
                rw [List.sum_append] at h9
                omega
              by_cases hjl : j < lz.length
              · obtain ⟨bq, oq, hbq, hcq⟩ := HAp.out.2.resolve_left (by omega)
                subst hbq
                have hcell : _root_.Go.World.cell? _ ⟨bq, oq + j, none⟩ = some ((lz.map fun n => Value.int .i64 (n : Nat)).getD j undef) := hcq j hjl
                rw [show (lz.map fun n => Value.int .i64 (n : Nat)).getD j undef = .int .i64 (lz[j] : Nat) by simp [List.getD, hjl]] at hcell
                have he := HEa.out.1 lz[j] (List.getElem_mem hjl)
                have HN := Lib.hid (show (lz.take (j + 1)).sum = (lz.take j).sum + lz[j] by rw [List.take_succ_eq_append_getElem hjl, List.sum_append]; simp)
                clear hcq
                generalize lz[j] = x at *
                generalize (lz.take j).sum = s1 at *
                have dx1 : decide ((x : Int) < 1) = false := decide_eq_false (by omega)
                have dx2 : decide ((32 : Int) < (x : Int)) = false := decide_eq_false (by omega)
                go_wp2_with fail
                go_roundw
                case rel => exact ⟨j + 1, by omega, by go_num, by rw [HN.out]; go_num, by first | rfl | trivial⟩
                case measure => simp [intOf]; omega
              · obtain rfl : j = lz.length := by omega
                have hsum : (lz.take lz.length).sum = n2 := by rw [List.take_length]; exact HEa.out.2.1
                rw [hsum]
                clear hsb hsum
                go_wp2_with fail
                refine HLq.out.mono ?_
                rintro e w' ⟨rfl, rfl⟩
                go_wp2_with fail
                go_roundw
                case rel => exact ⟨k + 1, L2, n2, a2, c2, by omega, by go_num, rfl, by omega, Lib.hid ⟨HI2.out.1, HIp.out⟩⟩
                case measure => simp [intOf]; omega
        · obtain rfl : k = n := by omega
          have hlen := hI.out.1
          obtain ⟨F, ls, hqL, kF, kg⟩ := hI.out.2.row
          have HRg := Lib.hid (quickRange (HLd.out _ hI.out.2.below) hqL.toF (by omega) 0 (-1) (by omega) (by omega))
          rw [range_all, hlen] at HRg
          obtain ⟨al', cl', e, hAl'⟩ := texts_of_slice (hlen ▸ hI.out.2.sl)
          injection e with e1 _ e3
          subst e1 e3
          have HAv := Lib.hid hAl'
          have HB := Lib.hid hI.out.2.below
          have HLn := Lib.hid hlen
          have HQL := Lib.hid hqL.toF
          clear hI hqL kF kg hAl' hlen
          go_wp2_with fail
          refine HRg.out.mono ?_
          rintro e w5 ⟨⟨v5, rfl, s5⟩, b5⟩
          obtain ⟨a5, c5, rfl, hA5⟩ := texts_of_slice s5
          have HSt := Lib.hid (sameTexts_any w5 a5 al n1 n1 c5 cl L L HLn.out HLn.out hA5 (HAv.out.belowT b5) (by omega))
          rw [decide_eq_true rfl] at HSt
          have B5 := Lib.hid (HB.out.trans (b5.mono HB.out.size))
          have HAv5 := Lib.hid (HAv.out.belowT b5)
          have HQ5 := Lib.hid (HQL.out.below b5)
          clear s5 b5 hA5 HAv HQL
          go_wp2_with fail
          refine HSt.out.mono ?_
          rintro e w6 ⟨rfl, k6, rfl⟩
          have hbd : Below w5.heap.size w5 (w5.drewN k6) := belowN (Below.refl _ _) k6
          have B6 := Lib.hid (B5.out.trans (hbd.mono B5.out.size))
          have HAv6 := Lib.hid (HAv5.out.belowT hbd)
          have HQ6 := Lib.hid (HQ5.out.below hbd)
          clear hbd
          obtain ⟨w6, hw6⟩ : ∃ w6, w6 = w5.drewN k6 := ⟨_, rfl⟩
          rw [← hw6] at B6 HAv6 HQ6 ⊢
          clear hw6 HSt HRg
          go_wp2_with fail
          go_loopw [14] (fun iv wr => ∃ j : Nat, j ≤ n1 ∧ iv = .int .i64 j ∧ Hid (Below w6.heap.size w6 wr)) (fun iv _ => n1 - (intOf iv).toNat)
          case atStart => exact ⟨0, Nat.zero_le _, rfl, Lib.hid (Below.refl _ _)⟩
          case round =>
            obtain ⟨j, hj, rfl, hb⟩ := hrel
            by_cases hjl : j < n1
            · have hBr := B6.out.trans (hb.out.mono B6.out.size)
              have HG1 := Lib.hid (quickGet (HQ6.out.below hb.out) (HLd.out _ hBr) (by have := HLn.out; omega) (j : Int) (by omega))
              rw [qget_at (by have := HLn.out; omega)] at HG1
              have HG2 := Lib.hid (fun w' (h : Below w6.heap.size w6 w') => quickGet (HQ6.out.below h) (HLd.out _ (B6.out.trans (h.mono B6.out.size))) (by have := HLn.out; omega) ((j : Int) - (L.length : Int)) (by have := HLn.out; omega))
              rw [HLn.out] at HG2
              have hback := qget_back (L := L) (k := j) (by have := HLn.out; omega)
              rw [HLn.out] at hback
              rw [hback] at HG2
              obtain ⟨bv, ov, hbv, hcv⟩ := HAv6.out.2.resolve_left (by omega)
              subst hbv
              have hcell0 : w6.cell? ⟨bv, ov + j, none⟩ = some (.string (L.getD j ByteArray.empty)) := hcv j hjl
              clear hcv hback hBr
              generalize L.getD j ByteArray.empty = y at *
              go_wp2_with fail
              refine HG1.out.mono ?_
              rintro e w7 ⟨rfl, b7⟩
              have hb7 := hb.out.trans (b7.mono hb.out.size)
              have HG2' := Lib.hid (HG2.out w7 hb7)
              have HB7 := Lib.hid hb7
              clear b7 hb7 HG1 HG2
              go_wp2_with fail
              refine HG2'.out.mono ?_
              rintro e w8 ⟨rfl, b8⟩
              have hb8 := HB7.out.trans (b8.mono HB7.out.size)
              have hcell : w8.cell? ⟨bv, ov + j, none⟩ = some (.string y) := by rw [hb8.cell (World.block_lt_of_cell? w6 _ hcell0)]; exact hcell0
              have HB8 := Lib.hid hb8
              clear b8 hb8 HG2' hcell0
              go_wp2_with fail
              go_roundw
              case rel => exact ⟨j + 1, by omega, by go_num, HB8⟩
              case measure => simp [intOf]; omega
            · obtain rfl : j = n1 := by omega
              have HBr := Lib.hid (B6.out.trans (hb.out.mono B6.out.size))
              go_wp2_with fail
              go_ret
              exact ⟨rfl, HBr.out⟩
end Go.Proofs.YtfbhddllimfdlaaDoor

/- what a row's list of variables gives (door seats): Laid; and a world that meets it. -/
namespace Go.Proofs.YtfbhddllimfdlaaDoor
set_option linter.unusedVariables false
set_option linter.unusedSimpArgs false
open Go.RowKit
namespace Lay
theorem star : "*" ++ "errors.errorString" = "*errors.errorString" := by decide
theorem rowErr (u : TypeId) (h : Tryd.prog.typeName? 3 u = some "*errors.errorString") : u = 171 :=
  typeName_ptr_named (nm := "errors.errorString") (by rw [star]; kernel_rfl) (by kernel_rfl) (by decide) u (by rw [star]; exact h)
theorem laid_of {W : World} (h : laidMetH Tryd.prog Rows.packParsesRow.laid W) (hs : W.ShapedOpen Tryd.prog) : Laid W := by
  have h0 : laidMet Tryd.prog Rows.packParsesRow.laid W := h
  have h3 : laidMet Tryd.prog [("internal/strconv.uint64pow10", Rows.laid_internal_strconv_uint64pow10), ("strconv.ErrRange", Rows.laid_strconv_ErrRange), ("strconv.ErrSyntax", Rows.laid_strconv_ErrSyntax)] W := h0.tail.tail
  refine { tab := Lib.tabIs_of_head (n := 20) (g := 0) (by kernel_rfl) (by kernel_rfl) Tryd.underlying159 Tryd.underlying71 (by kernel_rfl) (by kernel_rfl) h3, syn := ?_, rng := ?_
         }
  · obtain ⟨a, _, hv, _⟩ := laid_sentinel (g := 1) h3.tail.tail (by kernel_rfl) (by kernel_rfl) Tryd.underlying132 rowErr Tryd.underlying171 Tryd.underlying173 rfl rfl Tryd.underlying9 (by kernel_rfl) (by kernel_rfl)
    exact ⟨_, _, hv⟩
  · obtain ⟨a, _, hv, _⟩ := laid_sentinel (g := 2) h3.tail (by kernel_rfl) (by kernel_rfl) Tryd.underlying132 rowErr Tryd.underlying171 Tryd.underlying173 rfl rfl Tryd.underlying9 (by kernel_rfl) (by kernel_rfl)
    exact ⟨_, _, hv⟩
/-- So many blocks has the settled world. -/
noncomputable def low : Nat := (World.holding Tryd.prog default ⟨#[], #[], []⟩).heap.size
abbrev synS : ByteArray := { data := #[105, 110, 118, 97, 108, 105, 100, 32, 115, 121, 110, 116, 97, 120] }
abbrev rngS : ByteArray := { data := #[118, 97, 108, 117, 101, 32, 111, 117, 116, 32, 111, 102, 32, 114, 97, 110, 103, 101] }
def lits : List (DataW Unit) → Array Value
  | [] => #[]
  | .lit (.int k n) :: l => #[.int k n] ++ lits l
  | _ :: l => lits l
def table : DataW Unit → Array Value
  | .agg l => lits l
  | _ => #[]
def into (cs : Array Value) : Obj → Obj
  | .cells _ t frozen => .cells cs t frozen
  | o => o
noncomputable def laidWorld (os : Os) : World :=
  let w0 := World.holding Tryd.prog os ⟨#[.cells #[.string synS] 173, .cells #[.string rngS] 173], #[], []⟩
  { w0 with heap := ((((w0.heap.modify 0 (into (table Rows.laid_internal_strconv_uint64pow10))).modify 3 (into (table Rows.laid_math_bits_deBruijn32tab))).modify 4 (into (table Rows.laid_math_bits_deBruijn64tab))).modify 1 (into #[.iface 171 (.pointer (some ⟨low, 0, none⟩))])).modify 2 (into #[.iface 171 (.pointer (some ⟨low + 1, 0, none⟩))]) }
theorem laid_met (os : Os) (args : Array Value) : laidMet Tryd.prog Rows.packParsesRow.laid ((laidWorld os).forCall (fun _ _ => 0) ⟨#[], args, []⟩).memory :=
  laidMet_of_run' 8 (by kernel_rfl) (by kernel_rfl)
end Lay
end Go.Proofs.YtfbhddllimfdlaaDoor

/- The row of the law QuickIsRow, and its card: for every input of at most 1048576 values and letters the Go function returns true and its arguments read as before, out of the walk quickIsRow_walk. The library's variables that the row lists hold what the program's text lays (the card's tie, given). -/
namespace Go.Proofs.YtfbhddllimfdlaaDoor.quickIsRowRow
open Go.ChangeShapes Go.WideShapes Go.ChangeAt Go.RowKit
open Go.ChangeMaps (open_string shut_string)
set_option linter.unusedVariables false
set_option linter.unusedSimpArgs false
theorem own : ownKnob Tryd.prog.godebug = none := by kernel_rfl
theorem laidOut : laidOutB Tryd.prog = true := by kernel_rfl
theorem bulk {H : Type} {l : List (DataW H)} (hk : Rows.uptoSmall H l = true) : Rows.uptoBulkAll l ≤ 1048576 := of_decide_eq_true hk
theorem reads (os : Os) {H : Type} (enc : TypeId × Value → H) : ∃ places, DataW.whole enc Tryd.prog ((Lay.laidWorld os).forCall (fun _ _ => 0) ⟨#[], #[.slice none 0 0], []⟩).memory Tryd.f5.params.toList Rows.quickIsRowSpec.vars false (#[.slice none 0 0] : Array Value).toList 8 = some ([.nil], [], places) :=
  ⟨[], by kernel_rfl⟩
set_option maxRecDepth 100000 in
theorem contract (H : Type) (enc : TypeId × Value → H) (W : World) (base : Nat) (args : Array Value) (ds gs : List (DataW H)) (before : List MemPlace)
    (hval0 : ∀ (j : Nat) t v, Tryd.f5.params[j]? = some t → args[j]? = some v → Value.okWide Tryd.prog W .any base t v)
    (hW : DataW.Whole enc Tryd.prog Tryd.f5.params.toList Rows.quickIsRowSpec.vars false W args.toList ds gs before) (hk0 : Rows.uptoSmall H (ds ++ gs) = true)
    (hsz0 : (DataW.weightsEach Tryd.prog (Tryd.f5.params.toList ++ Rows.quickIsRowSpec.plain.varTypes Tryd.prog) (ds ++ gs)).all (· ≤ reachBytes) = true) (hL : Laid W) :
    Calls Tryd.prog 5 args W fun e W' => ∃ v, e = .returned v ∧ Rows.quickIsRowSpec.post enc Tryd.prog Tryd.f5 false true false false W args v W' := by
  have hsz := hsz0
  have hk := bulk hk0
  have hval : ∀ (j : Nat) t v, Tryd.f5.params[j]? = some t → args[j]? = some v → Value.okWide Tryd.prog W .any base t v := hval0
  have hW' := hW
  obtain ⟨p, q, hA0, hV, rfl, hfz, hnd⟩ := hW
  have hA : DataW.TrodAll enc Tryd.prog W 0 (fun _ => true) true Tryd.f5.params.toList args.toList ds p := hA0
  rw [Tryd.params5] at hA hval hsz
  obtain ⟨v0, vs0, d0, ds0, p0, q0, hargs, rfl, rfl, h0, r0⟩ := trodAll_cons hA
  obtain ⟨rfl, rfl, rfl⟩ := trodAll_nil r0
  obtain rfl : args = #[v0] := by cases args; simp_all
  obtain ⟨rfl, rfl⟩ := trodVars_none hV
  have k0 := h0
  have lt0 : ∀ x ∈ p0, x.block < W.heap.size := by obtain ⟨m, hm⟩ := k0; exact DataW.trod_lt m _ _ _ hm
  obtain ⟨a0, len0, cap0, rfl⟩ := okWide_slice Tryd.underlying44 (hval 0 44 v0 rfl rfl)
  have b0 : Rows.uptoBulk d0 ≤ 1048576 := by
    have := hk
    simp only [List.cons_append, List.nil_append, List.append_nil, Rows.uptoBulkAll] at this
    omega
  obtain ⟨z0, w0, l0, y0⟩ := ops_arg h0 b0
  simp only [List.cons_append, List.nil_append, List.append_nil, Rows.uptoBulkAll, Rows.uptoBulk] at hk
  clear hA0 hval0 hsz0 hsz
  refine (quickIsRow_walk hL a0 len0 cap0 z0 w0 l0 y0).mono fun e W' ⟨he, bel⟩ => ?_
  subst he
  exact ⟨_, rfl, _, _, _, [], _, [], hW', trodAll_mk1 (shut_bool Tryd.underlying4 _), (trodAll_cons_mk (Below.trod laidOut (by kernel_rfl) (of_decide_eq_true (by kernel_rfl)) k0 bel lt0) trodAll_mk0), rfl, bel.frame _, fun h => by cases h⟩
set_option maxRecDepth 100000 in
theorem liftedUpto (os : Os) (started : os.Started) (H : Type) (enc : TypeId × Value → H) (F : Stop.Interp) :
    ReturnsInHanded {} Tryd.checked os 5 .any ((Rows.OpenSpec.upto Rows.quickIsRowSpec).preRow enc Tryd.prog Tryd.f5 Rows.quickIsRowUptoRow.domain false Rows.quickIsRowUptoRow.laid) (((Rows.OpenSpec.upto Rows.quickIsRowSpec).at F).post enc Tryd.prog Tryd.f5 false true false false) := by
  obtain ⟨places, hx⟩ := reads os enc
  refine returnsInHanded_of_row (C := Tryd.checked) (s := (Rows.OpenSpec.upto Rows.quickIsRowSpec)) own started (by kernel_rfl) Tryd.func5
    (witness_row_at (enc := enc) (C := Tryd.checked) false (Lay.laidWorld os) #[.slice none 0 0] rfl (by kernel_rfl) (by kernel_rfl) (by kernel_rfl)
      (OpenSpec.preRow_of_cond 8 hx (by kernel_rfl) (fun k hk => by cases hk; kernel_rfl) (by kernel_rfl) (Lay.laid_met os _))) ?_
  intro W base args ds gs before hval hW _ hcond hsz hL hS _
  exact contract H enc W base args ds gs before hval hW (hcond _ rfl) hsz (Lay.laid_of hL hS)
theorem saidUpto : Rows.QuickIsRowUptoSaid :=
  OpenClaim.holds_of_cond 5 Tryd.f5 rfl rfl rfl rfl rfl rfl rfl ⟨rfl, rfl, rfl, rfl, rfl⟩ rfl rfl rfl rfl rfl (by kernel_rfl) Tryd.func5 (by kernel_rfl)
    (of_decide_eq_true (by kernel_rfl)) (by unfold Func.isWrapper; first | (rw [if_pos (by decide +kernel)]; kernel_rfl) | (rw [if_neg (by decide +kernel)]; exact ⟨rfl, rfl⟩))
    (fun os started H enc _ F => by rw [OpenClaim.pre_eq_preRow]; exact liftedUpto os started H enc F)
theorem plain (f : FuncId) (fn : Func) (hf : Tryd.pinned.checked.prog.funcNamed "stillroom/stillroomlaw08.QuickIsRow" = some f) (hfn : Tryd.pinned.checked.prog.funcs[f]? = some fn) :
    true = Tryd.pinned.checked.prog.looks [] ∧ ∀ (j : Nat) t, fn.params[j]? = some t → Tryd.pinned.checked.prog.wantsStandIn t = false := by
  obtain rfl : f = 5 := Option.some.inj ((show Tryd.prog.funcNamed "stillroom/stillroomlaw08.QuickIsRow" = some 5 by kernel_rfl).symm.trans hf) |>.symm
  obtain rfl : fn = Tryd.f5 := (Option.some.inj (Tryd.func5.symm.trans hfn)).symm
  refine ⟨by kernel_rfl, fun j t ht => ?_⟩
  rw [Tryd.params5] at ht
  have ht := Array.mem_of_getElem? ht
  have all : ∀ t ∈ (#[44] : Array TypeId), Tryd.prog.wantsStandIn t = false := by
    intro t ht
    simp only [List.mem_toArray, List.mem_cons, List.not_mem_nil, or_false] at ht
    subst ht; kernel_rfl
  exact all t ht
end Go.Proofs.YtfbhddllimfdlaaDoor.quickIsRowRow
namespace Go.Proofs.YtfbhddllimfdlaaDoor
open Go.Proofs.YtfbhddllimfdlaaDoor.quickIsRowRow in
/-- The law's card. -/
theorem quickIsRow_holds : Rows.QuickIsRowUptoCardSaid :=
  Claim7.holds_tied_plain_at .later [] _ _ _ _ saidUpto (fun _ h => by cases h) (by kernel_rfl) (fun _ h => by cases h) quickIsRowUpto_row_tie rfl ⟨rfl, rfl⟩ (by kernel_rfl) rfl plain (by kernel_rfl)
end Go.Proofs.YtfbhddllimfdlaaDoor
