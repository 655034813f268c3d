/- The law IntsGoes. -/
import Derived.Test.YtncdckakcmoejaaInts9
namespace Go.Proofs.Ytncdckakcmoejaa
set_option linter.unusedVariables false
set_option linter.unusedSimpArgs false
open Go.RowKit
theorem ArgRow.below {w w' : World} {a : Option Addr} {len cap : Nat} {f : Nat → Value} (h : ArgRow w a len cap f) (hb : Below w.heap.size w w') : ArgRow w' a len cap f := by
  refine ⟨h.1, h.2.imp id ?_⟩
  rintro ⟨b, o, e, hc⟩
  refine ⟨b, o, e, fun i hi => ?_⟩
  have := hc i hi
  rw [hb.cell (World.block_lt_of_cell? w _ this)]
  exact this
theorem goes_len {L : List Int} {n : Int} (h : L.Pairwise (· < ·)) : (del (ins L n) n).length = if n ∈ L then L.length - 1 else L.length := by
  have h1 := ins_sorted n h
  have h2 := ins_length n h
  have hmem : n ∈ ins L n := (mem_ins n n L).2 (.inl rfl)
  obtain ⟨i, hi, hx⟩ := List.getElem_of_mem hmem
  have h3 := del_place (x := n) h1 hi (by simp [List.getD, hi, hx])
  have h4 := delAt_length _ i hi
  rw [← h3]
  split <;> simp_all <;> omega
set_option maxHeartbeats 3200000 in
set_option maxRecDepth 100000 in
theorem intsGoes_walk (a : Option Addr) (len cap : Nat) (zs : List Int) (n : Int) (w : World)
    (h0 : zs.length = len ∧ ArgRow w a len cap (fun i => .int .i64 (zs.getD i 0)) ∧ ∀ n ∈ zs, (Lit.int .i64 n).wf = true) (h1 : (Lit.int .i64 n).wf = true) :
    Calls Try.prog 9 #[.slice a len cap, .int .i64 n] w fun e w' => e = .returned (.bool true) ∧ Below w.heap.size w w' := by
  obtain ⟨hlen, harg, hwf⟩ := h0
  have hn := bounds_i64 h1
  have HAl := Lib.hid fun w => alive6_any w
  have HArg := Lib.hid harg
  have HL := Lib.hid hlen
  have HWf := Lib.hid hwf
  have HNn := Lib.hid hn
  have hcl : len ≤ cap := harg.1
  clear hlen harg hwf hn h1
  by_cases hlong : 400 < len
  · go_enter Try.func9, Try.ntmps9
    go_wp2_with fail
    refine (HAl.out _).mono ?_
    rintro e w1 ⟨rfl, b1⟩
    have B1 := Lib.hid b1
    clear b1
    go_wp2_with fail
    refine (HAl.out _).mono ?_
    rintro e w2 ⟨rfl, b2⟩
    have B2 := Lib.hid (B1.out.trans (b2.mono B1.out.size))
    clear b2
    go_wp2_with fail
    go_ret
    exact ⟨rfl, B2.out⟩
  · have hshort : len ≤ 400 := by omega
    go_enter Try.func9, Try.ntmps9
    go_wp2_with fail
    refine (HAl.out _).mono ?_
    rintro e w1 ⟨rfl, b1⟩
    have B1 := Lib.hid b1
    have HFi := Lib.hid (filled_any w1 a len cap zs HL.out (HArg.out.below b1) HWf.out hshort)
    clear b1
    go_wp2_with fail
    refine HFi.out.mono ?_
    rintro e w2 ⟨p, F, rfl, q1, q2, b2⟩
    obtain ⟨L, hLd⟩ : ∃ L, L = insAll [] zs := ⟨_, rfl⟩
    obtain ⟨W, hWd⟩ : ∃ W, W = widthAll 2 zs := ⟨_, rfl⟩
    rw [← hLd, ← hWd] at q1
    have B2 := Lib.hid (B1.out.trans (b2.mono B1.out.size))
    have KF := Lib.hid (show ∀ k, F k → w.heap.size ≤ k from fun k hk => Nat.le_trans B1.out.size (q2 k hk))
    have hLl : L.length ≤ 400 := by have := insAll_length zs [] List.Pairwise.nil; rw [hLd]; have := HL.out; simp at *; omega
    have HLd := Lib.hid hLd
    have hs := q1.sorted
    have HS := Lib.hid hs
    have hlen2 := goes_len (n := n) hs
    have hmi : decide (n ∈ ins L n) = true := by simp [mem_ins]
    have hmd : decide (n ∈ del (ins L n) n) = false := by simp [mem_del]
    have Q1 := Lib.hid q1
    clear q1 q2 b2 hWd hLd hs HFi
    rcases Bool.eq_false_or_eq_true (decide (n ∈ L)) with hm | hm
    all_goals
      have hm' : decide (n ∉ L) = !decide (n ∈ L) := by simp
      rw [hm] at hm'
      simp only [Bool.not_true, Bool.not_false] at hm'
      have Hm := Lib.hid hm
      have HH := Lib.hid (hasF Q1.out n)
      rw [hm] at HH
      have HLen2 := Lib.hid hlen2
      clear hlen2
      go_wp2_with fail
      refine HH.out.mono ?_
      rintro e w3 ⟨rfl, c3⟩
      have Q3 := Lib.hid (Q1.out.chg c3 fun _ _ => id)
      have B3 := Lib.hid (belowChg B2.out c3 B2.out.size fun _ h _ => h.elim)
      clear c3 HH
      go_wp2_with fail
      refine (lenF Q3.out).mono ?_
      rintro e w' ⟨rfl, rfl⟩
      go_wp2_with fail
      refine (widthF Q3.out).mono ?_
      rintro e w' ⟨rfl, rfl⟩
      have HA := Lib.hid (addF Q3.out n HNn.out (by omega))
      rw [hm'] at HA
      go_wp2_with fail
      refine HA.out.mono ?_
      rintro e w4 ⟨rfl, F4, q1, q2, q3⟩
      have B4 := Lib.hid (belowChg B3.out q3 B3.out.size fun k hk _ => KF.out k hk)
      have KF4 := Lib.hid (show ∀ k, F4 k → w.heap.size ≤ k from fun k hk => (q2 k hk).elim (KF.out k) fun h => Nat.le_trans B3.out.size h)
      have Q4 := Lib.hid q1
      have HH := Lib.hid (hasF q1 n)
      rw [hmi] at HH
      clear q1 q2 q3 HA
      go_wp2_with fail
      refine HH.out.mono ?_
      rintro e w5 ⟨rfl, c5⟩
      have Q5 := Lib.hid (Q4.out.chg c5 fun _ _ => id)
      have B5 := Lib.hid (belowChg B4.out c5 B4.out.size fun _ h _ => h.elim)
      clear c5 HH Q4
      have hmx : decide (max W (wantsN n) < W) = false := by simp; omega
      have hmx2 : decide (((max W (wantsN n) : Nat) : Int) < (W : Int)) = false := by simp; omega
      generalize hM : max W (wantsN n) = M at *
      clear hM
      go_wp2_with fail
      refine (widthF Q5.out).mono ?_
      rintro e w' ⟨rfl, rfl⟩
      go_wp2_with fail
      refine (widthF Q5.out).mono ?_
      rintro e w' ⟨rfl, rfl⟩
      have HR := Lib.hid (removeF Q5.out n)
      rw [hmi] at HR
      go_wp2_with fail
      refine HR.out.mono ?_
      rintro e w6 ⟨rfl, q1, q3⟩
      have B6 := Lib.hid (belowChg B5.out q3 B5.out.size fun k hk _ => KF4.out k hk)
      have HH := Lib.hid (hasF q1 n)
      rw [hmd] at HH
      have Q6 := Lib.hid q1
      clear q1 q3 HR
      go_wp2_with fail
      refine HH.out.mono ?_
      rintro e w7 ⟨rfl, c7⟩
      have Q7 := Lib.hid (Q6.out.chg c7 fun _ _ => id)
      have B7 := Lib.hid (belowChg B6.out c7 B6.out.size fun _ h _ => h.elim)
      clear c7 HH Q6
      have HR := Lib.hid (removeF Q7.out n)
      rw [hmd] at HR
      go_wp2_with fail
      refine HR.out.mono ?_
      rintro e w8 ⟨rfl, q1, q3⟩
      rw [del_not (show n ∉ del (ins L n) n by simp [mem_del])] at q1
      have B8 := Lib.hid (belowChg B7.out q3 B7.out.size fun k hk _ => KF4.out k hk)
      have Q8 := Lib.hid q1
      clear q1 q3 HR
      go_wp2_with fail
      refine (widthF Q8.out).mono ?_
      rintro e w' ⟨rfl, rfl⟩
      have HLn := Lib.hid (lenF Q8.out)
      have hl := HLen2.out
      have hm3 := Hm.out
      simp only [decide_eq_true_eq, decide_eq_false_iff_not] at hm3
      first
        | (rw [if_pos hm3] at hl; rw [hl, show ((L.length - 1 : Nat) : Int) = (L.length : Int) - 1 by have := List.length_pos_of_mem hm3; omega] at HLn)
        | (rw [if_neg hm3] at hl; rw [hl] at HLn)
      have HL0 := Lib.hid (show n ∈ L → 0 < L.length from fun h => List.length_pos_of_mem h)
      clear hl hm3
      have hmF : ∀ i (h : i < len), decide (zs.getD i 0 ∈ del (ins L n) n) = (zs.getD i 0 != n) := fun i hi => by
        have hz : zs.getD i 0 ∈ L := by
          rw [HLd.out, mem_insAll]
          right
          simp [List.getD, show i < zs.length by have := HL.out; omega]
        rw [Bool.eq_iff_iff]
        simp only [decide_eq_true_eq, bne_iff_ne]
        exact ⟨fun h => ((mem_del _ _ _).1 h).2, fun h => (mem_del _ _ _).2 ⟨(mem_ins _ _ _).2 (.inr hz), h⟩⟩
      have HmF := Lib.hid hmF
      clear hmF
      have HLo := Lib.hid (show IntsF w8 p F4 (del (ins L n) n) M ∧ Below w.heap.size w w8 from ⟨Q8.out, B8.out⟩)
      clear Q8 B8 B7 Q7 B6 B5 Q5 Q3 Q1 B4 B3 B2 KF hmi hmd hmx hmx2 hm hm'
      go_wp2_with fail
      refine HLn.out.mono ?_
      rintro e w' ⟨rfl, rfl⟩
      go_wp2_with fail
      go_loopw [10] (fun i wr => ∃ k : Nat, k ≤ len ∧ i = .int .i64 k ∧ Hid (IntsF wr p F4 (del (ins L n) n) M ∧ Below w.heap.size w wr)) (fun i _ => len - (intOf i).toNat)
      case atStart => exact ⟨0, Nat.zero_le _, rfl, HLo⟩
      case round =>
        obtain ⟨k, hk, rfl, hI⟩ := hrel
        by_cases hlt : k < len
        · obtain ⟨b, o, ha, hc⟩ := HArg.out.2.resolve_left (by omega)
          subst ha
          have hcell : wr.cell? ⟨b, o + k, none⟩ = some (.int .i64 (zs.getD k 0)) := by
            have := hc k hlt
            rw [hI.out.2.cell (World.block_lt_of_cell? w _ this)]; exact this
          have HHk := Lib.hid fun m => hasF (hI.out.1.chg (Chg.drewN (fun _ => False) wr m) fun _ _ => id) (zs.getD k 0)
          have hmk := HmF.out k hlt
          rw [hmk] at HHk
          have hcs : ∀ w', Chg (fun _ => False) wr w' → w'.cell? ⟨b, o + k, none⟩ = some (.int .i64 (zs.getD k 0)) := fun w' h => by
            rw [World.cell?_of_block (h.block b (World.block_lt_of_cell? wr _ hcell) id)]; exact hcell
          have HCs := Lib.hid hcs
          clear hmk hc hcs
          generalize zs.getD k 0 = x at *
          go_wp2_with fail
          obtain ⟨X1, f, hX1, hf, hF⟩ := classOf (fun w => w.cell? ⟨b, o + k, none⟩ = some (.int .i64 x)) hcell
          have HF := Lib.hid hF
          clear hF
          refine wp_region_text ⟨[5], [], 13⟩ (fun w' => ∃ x : X1, w' = f x) (by kernel_rfl) (by kernel_rfl) (HF.out _ (HCs.out _ (Chg.drewN _ _ 1))) ?_
          refine wpC_seg false (HF.out _ (HCs.out _ (Chg.drewN _ _ 1))) 5 0 _ _ (by rfl) (by rfl) ?_
          simp only [List.take_succ_cons, List.take_zero, List.drop_succ_cons, List.drop_zero, Bool.false_eq_true, if_false, Nat.zero_add, Nat.reduceAdd]
          repeat (go_big_quiet_step (fail))
          refine wpQuiet_nil ?_
          refine wpC_loud (by rfl) (by rfl) fun K hK => ?_
          go_wp2_with fail
          refine (HHk.out 1).mono ?_
          rintro e w9 ⟨rfl, c9⟩
          have c10 : Chg (fun _ => False) wr w9 := (Chg.drewN _ _ 1).trans c9 fun _ h _ => h
          refine hK _ _ (fun _ => HF.out _ (HCs.out _ c10)) ?_
          clear hK
          refine wpC_seg false (HF.out _ (HCs.out _ c10)) 7 6 _ _ (by rfl) (by rfl) ?_
          simp only [List.take_succ_cons, List.take_zero, List.drop_succ_cons, List.drop_zero, Bool.false_eq_true, if_false, Nat.zero_add, Nat.reduceAdd]
          repeat (go_big_quiet_step (fail))
          refine wpQuiet_nil ?_
          refine wpC_nil ?_
          have hnew := belowChg hI.out.2 c10 hI.out.2.size fun _ h _ => h.elim
          have hq := hI.out.1.chg c10 fun _ _ => id
          have HNw := Lib.hid (And.intro hq hnew)
          clear hf hX1 HF HCs hcell hnew hq c9 c10 hI HHk
          go_wp2_with fail
          go_roundw
          case rel => exact ⟨k + 1, by omega, by go_num, HNw⟩
          case measure => simp [intOf]; omega
        · have : k = len := by omega
          subst this
          go_wp2_with fail
          go_ret
          exact ⟨rfl, hI.out.2⟩
end Go.Proofs.Ytncdckakcmoejaa
