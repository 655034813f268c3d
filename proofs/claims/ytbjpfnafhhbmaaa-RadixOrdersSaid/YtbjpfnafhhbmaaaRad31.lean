/- radix: Delete; Nodes. -/
import Derived.Test.YtbjpfnafhhbmaaaRad30
import Derived.Laws.EntriesVeiled
namespace Go.Proofs.Ytbjpfnafhhbmaaa.Rad
open Go.Proofs.Ytbjpfnafhhbmaaa
set_option linter.unusedVariables false
set_option linter.unusedSimpArgs false
open Go.RowKit RT
theorem radDelete {w : World} {p : Nat} {G : Nat → Prop} {T : Option RT} {n : Nat} (h : TreeF w p G T n) {ms seq : Nat} (h1 : ms < 18446744073709551616) (h2 : seq < 18446744073709551616) (hn : n ≤ 1000000000) (hl : lookO T (idBytes ms seq) ≠ none → 0 < n) :
    Calls Try.prog 11 #[ptrV p, .agg #[.int .u64 ms, .int .u64 seq]] w (Deleted w p G T n (idBytes ms seq)) := by
  by_cases hs : lookO T (idBytes ms seq) ≠ none → ∃ t, T = some t ∧ t.kids = []
  · exact radDel_small h h1 h2 hn fun hh => ⟨hl hh, hs hh⟩
  · obtain ⟨hh, hno⟩ := Classical.not_imp.1 hs
    cases T with
    | none => exact absurd rfl hh
    | some t =>
      refine radDel_in h h1 h2 hn (hl hh) ?_ fun e => hno ⟨t, rfl, e⟩
      cases hlk : RT.look t (idBytes ms seq) with
      | none => exact absurd hlk hh
      | some v => rfl
theorem RT.nodes_get : ∀ {l : List RT} {i : Nat} (h : i < l.length), RT.nodes l[i] ≤ RT.nodesS l
  | t :: l, 0, _ => by rw [RT.nodesS]; exact Nat.le_add_right _ _
  | t :: l, i + 1, h => by
    have := RT.nodes_get (l := l) (i := i) (by simpa using h)
    rw [RT.nodesS]; simp only [List.getElem_cons_succ]; omega
theorem RT.nodesS_succ : ∀ {l : List RT} {i : Nat} (h : i < l.length), RT.nodesS (l.take (i + 1)) = RT.nodesS (l.take i) + RT.nodes l[i]
  | t :: l, 0, _ => by simp [RT.nodesS]
  | t :: l, i + 1, h => by
    have := RT.nodesS_succ (l := l) (i := i) (by simpa using h)
    simp only [List.take_succ_cons, RT.nodesS, List.getElem_cons_succ, this]
    omega
/-- What the walk reads of the node at place i below. -/
theorem kid_ptr {w : World} {ro : Nat → Prop} {b : List UInt8} {v : VT} {k : List RT} {x : Nat} {own : List Nat} (h : NodeAt w ro (.mk b v k) x own) : ∃ a cap, w.cell? ⟨x, 1, none⟩ = some (.slice a k.length cap) ∧ x < w.heap.size ∧
    ∀ i (hi : i < k.length), ∃ g z oi, a = some ⟨g, 0, none⟩ ∧ w.cell? ⟨g, i, none⟩ = some (.pointer (some ⟨z, 0, none⟩)) ∧ g < w.heap.size ∧ NodeAt w ro k[i] z oi ∧ (∀ q ∈ oi, q ∈ own) ∧ g ∈ own := by
  obtain ⟨a, ca, kv, xs, rows, hp, ho⟩ := parts_of h
  obtain ⟨ak, ck, hkv, _⟩ := hp.2.2.1.arg
  subst hkv
  refine ⟨ak, ck, cell_in hp.1 (i := 1) rfl, heap_lt hp.1, fun i hi => ?_⟩
  obtain ⟨oi, h1, h2⟩ := hp.2.2.2.get i hi
  obtain ⟨g, cap, cur, he, _, hrow, _⟩ := hp.2.2.1.2.resolve_left (by omega)
  cases he
  refine ⟨g, xs.getD i 0, oi, rfl, ?_, hrow.lt, h1, fun q hq => by rw [ho]; simp [h2 q hq], by rw [ho]; simp [vblock]⟩
  rw [SliceIs.two hp.2.2.1 hi]
  have hl := hp.2.2.2.length
  simp [List.getD, show i < xs.length by omega, ptrV]
set_option maxHeartbeats 1600000 in
set_option maxRecDepth 100000 in
theorem radNodes1 (bx : Nat) : ∀ (m : Nat) {w : World} {ro : Nat → Prop} {u : RT} {x : Nat} {own : List Nat}, RT.nodes u ≤ m → m ≤ 100000000 → NodeAt w ro u x own → w.cell? ⟨bx, 0, none⟩ = some (.func (.func 15) #[] #[.pointer (some ⟨bx, 0, none⟩)]) →
    Calls Try.prog 15 #[ptrV x, .pointer (some ⟨bx, 0, none⟩)] w fun e w' => e = .returned (.int .i64 (RT.nodes u)) ∧ Below w.heap.size w w'
  | 0, w, ro, .mk b v k, x, own, hm, _, _, _ => by rw [RT.nodes] at hm; omega
  | m + 1, w, ro, .mk b v k, x, own, hm, hm1, h, hbx => by
    have hnn : RT.nodes (.mk b v k) = 1 + RT.nodesS k := by rw [RT.nodes]
    rw [hnn] at hm ⊢
    obtain ⟨a, cap, c1, hxlt, hk⟩ := kid_ptr h
    have HK := Lib.hid hk
    have hle : ∀ i, RT.nodesS (k.take i) ≤ RT.nodesS k := fun i => by
      have : ∀ (l : List RT) (i : Nat), RT.nodesS (l.take i) ≤ RT.nodesS l := by
        intro l
        induction l with
        | nil => intro i; simp
        | cons t l ih =>
          intro i
          cases i with
          | zero => simp [RT.nodesS]
          | succ i => simp only [List.take_succ_cons, RT.nodesS]; have := ih i; omega
      exact this k i
    have hkl : ∀ (l : List RT), l.length ≤ RT.nodesS l := by
      intro l
      induction l with
      | nil => simp
      | cons t l ih => obtain ⟨_, _, _⟩ := t; simp only [List.length_cons, RT.nodesS, RT.nodes]; omega
    have hkl := hkl k
    have HLe := Lib.hid hle
    have HH := Lib.hid h
    have hbl := World.block_lt_of_cell? w _ hbx
    obtain ⟨N, hN⟩ : ∃ N, RT.nodesS k = N := ⟨_, rfl⟩
    rw [hN] at hm hkl ⊢
    have HN := Lib.hid hN
    clear hk hle h hnn hN
    unfold ptrV
    go_enter Try.func15, Try.ntmps15
    go_wp2_with fail
    go_loopw [4, 12] (fun n i wr => ∃ j s : Nat, j ≤ k.length ∧ s ≤ N ∧ i = .int .i64 j ∧ n = .int .i64 ((1 : Int) + s) ∧ Hid (RT.nodesS (k.take j) = s) ∧ Hid (Below w.heap.size w wr)) (fun _ i _ => k.length - (intOf i).toNat)
    case atStart => exact ⟨0, 0, Nat.zero_le _, Nat.zero_le _, rfl, rfl, Lib.hid (by simp [RT.nodesS]), Lib.hid (Below.refl _ _)⟩
    case round =>
      obtain ⟨j, s, hj, hs, rfl, rfl, hS, hB⟩ := hrel
      have hbx' : wr.cell? ⟨bx, 0, none⟩ = some (.func (.func 15) #[] #[.pointer (some ⟨bx, 0, none⟩)]) := (hB.out.cell (p := ⟨bx, 0, none⟩) hbl).trans hbx
      by_cases hlt : j < k.length
      · obtain ⟨g, z, oi, rfl, hz, hg, hn, _⟩ := HK.out j hlt
        have hz' : wr.cell? ⟨g, j, none⟩ = some (.pointer (some ⟨z, 0, none⟩)) := (hB.out.cell (p := ⟨g, j, none⟩) hg).trans hz
        have hnj := RT.nodesS_succ hlt
        have hsj := HLe.out (j + 1)
        rw [hnj, hS.out, HN.out] at hsj
        have HIh := Lib.hid (radNodes1 bx m (w := wr) (u := k[j]) (by omega) (by omega) (hn.chg (Chg.of_below (fun _ => False) hB.out) (fun _ _ => id) fun _ _ => id) hbx')
        have HS2 := Lib.hid (show RT.nodesS (k.take (j + 1)) = s + RT.nodes k[j] by rw [hnj, hS.out])
        have hce : ∀ (w : World) (args : Array Value), (callFunc 15 args).run Try.prog w = .ok (.enter 15 args) w := fun w args => rfl
        obtain ⟨nj, hnje⟩ : ∃ nj, RT.nodes k[j] = nj := ⟨_, rfl⟩
        rw [hnje] at HIh HS2 hsj
        clear hn hz hnj hS hbx hnje
        go_wp2_with fail
        refine HIh.out.mono ?_
        rintro e w2 ⟨rfl, hb2⟩
        have HB2 := Lib.hid (hB.out.trans (hb2.mono hB.out.size))
        clear hb2
        go_wp2_with fail
        go_roundw
        case rel => exact ⟨j + 1, s + nj, by omega, by omega, by go_num, by go_num, HS2, HB2⟩
        case measure => simp [intOf]; omega
      · have : j = k.length := by omega
        subst this
        go_wp2_with fail
        go_ret
        have hs' : s = N := by rw [← hS.out, ← HN.out, List.take_length]
        exact ⟨ret1 (by rw [hs']; congr 1), hB.out⟩
def nodesO : Option RT → Nat
  | none => 0
  | some t => RT.nodes t
set_option maxHeartbeats 1600000 in
set_option maxRecDepth 100000 in
theorem radNodes {w : World} {p : Nat} {G : Nat → Prop} {T : Option RT} {n : Nat} (h : TreeF w p G T n) (hn : nodesO T ≤ 100000000) :
    Calls Try.prog 7 #[ptrV p] w fun e w' => e = .returned (.int .i64 (nodesO T)) ∧ Below w.heap.size w w' := by
  cases T with
  | none =>
    have c1 := cell_in h.2.1 (i := 1) rfl
    clear h
    unfold ptrV
    go_enter Try.func7, Try.ntmps7
    go_wp2_with fail
    go_ret
    exact ⟨rfl, Below.refl _ _⟩
  | some t =>
    obtain ⟨hGl, hwf, ro, x, own, hr, hG⟩ := h
    have hp := heap_lt hr.1
    have c1 := cell_in hr.1 (i := 1) rfl
    obtain ⟨w1, hw1⟩ : ∃ w1, w1 = w.alloc (.cells #[.func (.func 15) #[] #[.pointer (some ⟨w.heap.size, 0, none⟩)]] 41) := ⟨_, rfl⟩
    have hb1 : Below w.heap.size w w1 := by rw [hw1]; exact (Below.refl _ _).alloc (Nat.le_refl _) _
    have e1 : w1.cell? ⟨p, 1, none⟩ = some (.pointer (some ⟨x, 0, none⟩)) := (hb1.cell (p := ⟨p, 1, none⟩) hp).trans c1
    have e2 : w1.cell? ⟨w.heap.size, 0, none⟩ = some (.func (.func 15) #[] #[.pointer (some ⟨w.heap.size, 0, none⟩)]) := by rw [hw1]; exact cell_in (heap_new _ _) rfl
    have HC := Lib.hid (fun k => radNodes1 w.heap.size (RT.nodes t) (w := w1.drewN k) (Nat.le_refl _) hn (((hr.2.1.chg (Chg.of_below (fun _ => False) hb1) (fun _ _ => id) fun _ _ => id).chg (Chg.drewN (fun _ => False) w1 k) (fun _ _ => id) fun _ _ => id)) e2)
    have hce : ∀ (w : World) (args : Array Value), (callFunc 15 args).run Try.prog w = .ok (.enter 15 args) w := fun w args => rfl
    have HW1 := Lib.hid hw1
    have HB1 := Lib.hid hb1
    obtain ⟨X1, f, hX1, hf, hF⟩ := classOf (fun w' => w'.cell? ⟨w.heap.size, 0, none⟩ = some (.func (.func 15) #[] #[.pointer (some ⟨w.heap.size, 0, none⟩)]) ∧ w'.cell? ⟨p, 1, none⟩ = some (.pointer (some ⟨x, 0, none⟩))) (w := w1) ⟨e2, e1⟩
    have f1 := fun x => (hf x).1
    have f2 := fun x => (hf x).2
    have HF := Lib.hid (hF w1.drew ⟨e2, e1⟩)
    clear hF hf hr hG hGl hwf hw1 hb1 e1 e2
    unfold ptrV at *
    go_enter Try.func7, Try.ntmps7
    go_wp2_with fail
    rw [← HW1.out]
    refine wp_region_text ⟨[5], [6], 5⟩ (fun w' => ∃ x : X1, w' = f x) (by kernel_rfl) (by kernel_rfl) HF.out ?_
    refine wpC_seg false (HF.out) 5 0 _ _ (by rfl) (by rfl) ?_
    simp only [List.take_succ_cons, List.take_zero, List.drop_succ_cons, List.drop_zero, Bool.false_eq_true, if_false, Nat.zero_add, Nat.reduceAdd]
    repeat (go_big_quiet_step (fail))
    refine wpQuiet_nil ?_
    refine wpC_loud (by rfl) (by rfl) fun K hK => ?_
    go_wp2_with fail
    refine (HC.out 1).mono ?_
    rintro e w2 ⟨rfl, hb2⟩
    refine hK _ _ (fun h => absurd h (by decide)) ?_
    clear hK
    refine wpC_segD 1 6 _ _ (by rfl) (by rfl) ?_
    simp only [List.take_succ_cons, List.take_zero, List.drop_succ_cons, List.drop_zero, if_true, Nat.zero_add, Nat.reduceAdd]
    repeat (go_big_quiet_step (fail))
    refine wpQuiet_nil ?_
    refine wpC_nil ?_
    clear f1 f2 hX1 HF f
    go_wp2_with fail
    go_ret
    exact ⟨rfl, (belowN HB1.out 1).trans (hb2.mono HB1.out.size)⟩
end Go.Proofs.Ytbjpfnafhhbmaaa.Rad
