/- radix: alike. -/
import Derived.Test.YtbjpfnafhhbmaaaRad1
namespace Go.Proofs.Ytbjpfnafhhbmaaa
set_option linter.unusedVariables false
set_option linter.unusedSimpArgs false
open Go.RowKit
/-- How many bytes two rows begin alike with. -/
def alikeN : List UInt8 → List UInt8 → Nat
  | x :: a, y :: b => if x = y then alikeN a b + 1 else 0
  | _, _ => 0
theorem alikeN_eq : ∀ (a b : List UInt8) (k : Nat), k ≤ a.length → k ≤ b.length → (∀ j, j < k → a.getD j 0 = b.getD j 0) → (k = a.length ∨ k = b.length ∨ a.getD k 0 ≠ b.getD k 0) → alikeN a b = k
  | [], b, k, h1, _, _, _ => by simp at h1; simp [alikeN, h1]
  | x :: a, [], k, _, h2, _, _ => by simp at h2; simp [alikeN, h2]
  | x :: a, y :: b, 0, _, _, _, h4 => by
    have : x ≠ y := by simpa using h4
    simp [alikeN, this]
  | x :: a, y :: b, k + 1, h1, h2, h3, h4 => by
    have e : x = y := by simpa using h3 0 (by omega)
    have := alikeN_eq a b k (by simpa using h1) (by simpa using h2) (fun j hj => by simpa using h3 (j + 1) (by omega)) (by simpa using h4)
    simp [alikeN, e, this]
theorem alikeN_le : ∀ (a b : List UInt8), alikeN a b ≤ a.length ∧ alikeN a b ≤ b.length
  | [], b => by simp [alikeN]
  | x :: a, [] => by simp [alikeN]
  | x :: a, y :: b => by
    have := alikeN_le a b
    simp only [alikeN]
    split <;> simp <;> omega
theorem alikeN_take : ∀ (a b : List UInt8), a.take (alikeN a b) = b.take (alikeN a b)
  | [], b => by simp [alikeN]
  | x :: a, [] => by simp [alikeN]
  | x :: a, y :: b => by
    have := alikeN_take a b
    simp only [alikeN]
    split
    · next h => simp [h, this]
    · simp
/-- A row of bytes that is only read. -/
def BytesIn (w : World) (a : Option Addr) (xs : List UInt8) (cap : Nat) : Prop :=
  xs.length ≤ cap ∧ (xs.length = 0 ∨ ∃ b o, a = some ⟨b, o, none⟩ ∧ ∀ i, i < xs.length → w.cell? ⟨b, o + i, none⟩ = some (.int .u8 (xs.getD i 0).toNat))
set_option maxHeartbeats 800000 in
set_option maxRecDepth 100000 in
theorem alike_any {w : World} {a b : Option Addr} {xs ys : List UInt8} {ca cb : Nat} (ha : BytesIn w a xs ca) (hb : BytesIn w b ys cb) (hx : xs.length ≤ 1000000) (hy : ys.length ≤ 1000000) :
    Calls Try.prog 18 #[.slice a xs.length ca, .slice b ys.length cb] w fun e w' => e = .returned (.int .i64 (alikeN xs ys)) ∧ ∃ n, w' = w.drewN n := by
  have HA := Lib.hid ha
  have HB := Lib.hid hb
  have hca := ha.1
  have hcb := hb.1
  clear ha hb
  go_enter Try.func18, Try.ntmps18
  go_wp2_with fail
  go_loopw [5] (fun i wr => ∃ k : Nat, k ≤ xs.length ∧ k ≤ ys.length ∧ i = .int .i64 k ∧ (∃ m, wr = w.drewN m) ∧ Hid (∀ j, j < k → xs.getD j 0 = ys.getD j 0)) (fun i _ => xs.length - (intOf i).toNat)
  case atStart => exact ⟨0, Nat.zero_le _, Nat.zero_le _, rfl, ⟨0, rfl⟩, Lib.hid fun j h => by omega⟩
  case round =>
    obtain ⟨k, hk1, hk2, rfl, ⟨m, rfl⟩, hI⟩ := hrel
    by_cases hlt : k < xs.length ∧ k < ys.length
    · obtain ⟨b1, o1, ha, hc1⟩ := HA.out.2.resolve_left (by omega)
      obtain ⟨b2, o2, hb, hc2⟩ := HB.out.2.resolve_left (by omega)
      subst ha hb
      have e1 : (w.drewN m).cell? ⟨b1, o1 + k, none⟩ = some (.int .u8 (xs.getD k 0).toNat) := hc1 k hlt.1
      have e2 : (w.drewN m).cell? ⟨b2, o2 + k, none⟩ = some (.int .u8 (ys.getD k 0).toNat) := hc2 k hlt.2
      have HE := Lib.hid (show ((((xs.getD k 0).toNat : Nat) : Int) == (((ys.getD k 0).toNat : Nat) : Int)) = decide (xs.getD k 0 = ys.getD k 0) by
        rw [Bool.eq_iff_iff, beq_iff_eq, decide_eq_true_eq, Int.ofNat_inj, UInt8.toNat_inj])
      obtain ⟨l1, l2⟩ := hlt
      clear hc1 hc2
      have HNx : Hid (xs.getD k 0 = ys.getD k 0 → ∀ j, j < k + 1 → xs.getD j 0 = ys.getD j 0) := Lib.hid fun h j h1 => by
        by_cases hj : j = k
        · subst hj; exact h
        · exact hI.out j (by omega)
      have HEnd : Hid (xs.getD k 0 ≠ ys.getD k 0 → alikeN xs ys = k) := Lib.hid fun h => alikeN_eq xs ys k hk1 hk2 hI.out (.inr (.inr h))
      clear hI
      obtain ⟨X1, f, hX1, hf, hF⟩ := classOf (fun x => x.cell? ⟨b1, o1 + k, none⟩ = some (.int .u8 (xs.getD k 0).toNat) ∧ x.cell? ⟨b2, o2 + k, none⟩ = some (.int .u8 (ys.getD k 0).toNat)) ⟨e1, e2⟩
      have hf1 := fun x => (hf x).1
      have hf2 := fun x => (hf x).2
      have HF := Lib.hid (hF (w.drewN m).drew ⟨e1, e2⟩)
      clear hF hf
      generalize xs.getD k 0 = x at *
      generalize ys.getD k 0 = y at *
      rcases Bool.eq_false_or_eq_true (decide (x = y)) with hxy | hxy
      all_goals
        rw [hxy] at HE
        have hE := HE.out
        go_wp2_with fail
        refine wp_region_text ⟨[], [], 21⟩ (fun w' => ∃ x : X1, w' = f x) (by kernel_rfl) (by kernel_rfl) HF.out ?_
        refine wpC_seg false (HF.out) 21 0 _ _ (by rfl) (by rfl) ?_
        simp only [List.take_succ_cons, List.take_zero, List.drop_succ_cons, List.drop_zero, Bool.false_eq_true, if_false, Nat.zero_add, Nat.reduceAdd]
        repeat (go_big_quiet_step (fail))
        refine wpQuiet_nil ?_
        refine wpC_nil ?_
        clear hf1 hf2 hX1 HF
        go_wp2_with fail
        first
          | (go_roundw
             case rel => exact ⟨k + 1, by omega, by omega, by go_num, ⟨_, rfl⟩, Lib.hid (HNx.out (by simpa using hxy))⟩
             case measure => simp [intOf]; omega)
          | (go_ret
             exact ⟨ret1 (by rw [HEnd.out (by simpa using hxy)]; rfl), m + 1, rfl⟩)
    · have HEnd : Hid (alikeN xs ys = k) := Lib.hid (alikeN_eq xs ys k hk1 hk2 hI.out (by
        rcases Nat.lt_or_ge k xs.length with h | h
        · exact .inr (.inl (by omega))
        · exact .inl (by omega)))
      have e1 : decide ((k : Int) < (xs.length : Int)) = decide (k < xs.length) := by rw [decide_eq_decide]; omega
      have e2 : decide ((k : Int) < (ys.length : Int)) = decide (k < ys.length) := by rw [decide_eq_decide]; omega
      obtain ⟨X1, f, hX1, hf, hF⟩ := classOf (fun x : World => True) (w := (w.drewN m).drew) trivial
      have HF := Lib.hid (hF (w.drewN m).drew trivial)
      clear hF hf
      rcases Nat.lt_or_ge k xs.length with h | h
      · have e4 := decide_eq_true h
        have e3 := decide_eq_false (show ¬ k < ys.length from fun h2 => hlt ⟨h, h2⟩)
        clear hlt
        go_wp2_with fail
        refine wp_region_text ⟨[], [], 21⟩ (fun w' => ∃ x : X1, w' = f x) (by kernel_rfl) (by kernel_rfl) HF.out ?_
        refine wpC_seg false (HF.out) 21 0 _ _ (by rfl) (by rfl) ?_
        simp only [List.take_succ_cons, List.take_zero, List.drop_succ_cons, List.drop_zero, Bool.false_eq_true, if_false, Nat.zero_add, Nat.reduceAdd]
        repeat (go_big_quiet_step (fail))
        refine wpQuiet_nil ?_
        refine wpC_nil ?_
        clear hX1 HF
        go_wp2_with fail
        go_ret
        exact ⟨ret1 (by rw [HEnd.out]; rfl), m + 1, rfl⟩
      · have e3 := decide_eq_false (show ¬ k < xs.length by omega)
        clear hlt e2
        go_wp2_with fail
        refine wp_region_text ⟨[], [], 21⟩ (fun w' => ∃ x : X1, w' = f x) (by kernel_rfl) (by kernel_rfl) HF.out ?_
        refine wpC_seg false (HF.out) 21 0 _ _ (by rfl) (by rfl) ?_
        simp only [List.take_succ_cons, List.take_zero, List.drop_succ_cons, List.drop_zero, Bool.false_eq_true, if_false, Nat.zero_add, Nat.reduceAdd]
        repeat (go_big_quiet_step (fail))
        refine wpQuiet_nil ?_
        refine wpC_nil ?_
        clear hX1 HF
        go_wp2_with fail
        go_ret
        exact ⟨ret1 (by rw [HEnd.out]; rfl), m + 1, rfl⟩
theorem BytesIn.below {w w' : World} {a : Option Addr} {xs : List UInt8} {cap : Nat} (h : BytesIn w a xs cap) (hb : Below w.heap.size w w') : BytesIn w' a xs cap := by
  refine ⟨h.1, h.2.imp id ?_⟩
  rintro ⟨b, o, e, hc⟩
  exact ⟨b, o, e, fun i hi => (hb.cell (p := ⟨b, o + i, none⟩) (World.block_lt_of_cell? w _ (hc i hi))).trans (hc i hi)⟩
end Go.Proofs.Ytbjpfnafhhbmaaa
