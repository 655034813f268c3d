/- pack.read. -/
import Derived.Test.YtcoepekoacpgnaaDoorPck5
import Derived.Test.YtcoepekoacpgnaaDoorOct
namespace Go.Proofs.YtcoepekoacpgnaaDoor
set_option linter.unusedVariables false
set_option linter.unusedSimpArgs false
open Go.RowKit
set_option maxHeartbeats 800000 in
set_option maxRecDepth 100000 in
theorem whole_any (n : Int) (hn : -9223372036854775808 ≤ n ∧ n ≤ 9223372036854775807) (k : Nat) (hk : k ≤ 8) {w : World} (hl : Laid w) :
    Calls Tryd.prog 76 #[.int .i64 n, .int .i64 k] w fun e w' => e = .returned (.tuple #[.string (intT n), .int .i64 ((1 + k : Nat) : Int), .bool true]) ∧ Below w.heap.size w w' := by
  have H := Lib.hid (intText_any n hn hl)
  clear hl
  go_enter Tryd.func76, Tryd.ntmps76
  go_wp2_with fail
  refine H.out.mono ?_
  rintro e w1 ⟨rfl, b1⟩
  have B1 := Lib.hid b1
  clear b1 H
  go_wp2_with fail
  go_ret3
  exact ⟨rfl, B1.out⟩
def readV (bs : List UInt8) : Value := match readL bs with
  | some (x, k) => .tuple #[.string x, .int .i64 k, .bool true]
  | none => .tuple #[.string ByteArray.empty, .int .i64 0, .bool false]
theorem cells_conv {w : World} {b o m cap : Nat} {xs : List UInt8} (hm : xs.length = m) (hc : ∀ i (h : i < xs.length), w.cell? ⟨b, o + i, none⟩ = some (.int .u8 xs[i].toNat)) :
    (convert 67 9 (.slice (some ⟨b, o, none⟩) m cap)).run Tryd.prog w = .ok (.string (strOf xs)) w :=
  run_string_row w _ _ 5 Tryd.underlying67 Tryd.underlying5 Tryd.underlying9 b o m cap xs hm hc
set_option maxHeartbeats 800000 in
set_option maxRecDepth 100000 in
theorem read_nil (b o cap : Nat) {w : World} :
    Calls Tryd.prog 43 #[.slice (some ⟨b, o, none⟩) 0 cap] w fun e w' => e = .returned (.tuple #[.string ByteArray.empty, .int .i64 0, .bool false]) ∧ Below w.heap.size w w' := by
  go_enter Tryd.func43, Tryd.ntmps43
  go_wp2_with fail
  go_ret3
  exact ⟨rfl, Below.refl _ _⟩
set_option maxHeartbeats 1600000 in
set_option maxRecDepth 100000 in
theorem read_short (b o m cap c : Nat) (xs : List UInt8) {w : World} (hxs : xs.length = c) (hc : c < 128) (hm : m + 1 ≤ cap) (hcap1 : ¬ cap = 1) (hmx : m ≤ 4000000000) (h0 : w.cell? ⟨b, o, none⟩ = some (.int .u8 c))
    (hcell : c ≤ m → ∀ i (h : i < xs.length), w.cell? ⟨b, o + 1 + i, none⟩ = some (.int .u8 xs[i].toNat)) :
    Calls Tryd.prog 43 #[.slice (some ⟨b, o, none⟩) (m + 1) cap] w fun e w' => e = .returned (if c ≤ m then .tuple #[.string (strOf xs), .int .i64 ((1 + c : Nat) : Int), .bool true] else .tuple #[.string ByteArray.empty, .int .i64 0, .bool false]) ∧ Below w.heap.size w w' := by
  have hand15 : bits .and .u8 (c : Int) 15 = ((c % 16 : Nat) : Int) := by
    rw [show (15 : Int) = ((15 : Nat) : Int) from rfl, u8_and_nat c 15 (by omega) (by omega), nat_mask4]
  have hd1 : decide ((c : Int) < 128) = true := by simp; omega
  by_cases hcm : c ≤ m
  · have hcv := cells_conv (cap := cap - 1) hxs (hcell hcm)
    rw [if_pos hcm]
    have hd2 : decide (m < c) = false := by simp; omega
    have HR := Lib.hid (show Below w.heap.size w w.drew from belowN (Below.refl _ _) 1)
    obtain ⟨X1, f, hX1, hf, hF⟩ := classOf (fun x => x.cell? ⟨b, o, none⟩ = some (.int .u8 c) ∧ (convert 67 9 (.slice (some ⟨b, o + 1, none⟩) c (cap - 1))).run Tryd.prog x = .ok (.string (strOf xs)) x) ⟨h0, hcv⟩
    have hf1 := fun x => (hf x).1
    have hf2 := fun x => (hf x).2
    have hcvd : (convert 67 9 (.slice (some ⟨b, o + 1, none⟩) c (cap - 1))).run Tryd.prog w.drew = .ok (.string (strOf xs)) w.drew := cells_conv (w := w.drew) hxs (hcell hcm)
    have HF := Lib.hid (hF w.drew ⟨h0, hcvd⟩)
    obtain ⟨S, hS⟩ : ∃ S, strOf xs = S := ⟨_, rfl⟩
    rw [hS] at hf2 ⊢
    clear hF hf hcell hcv hcvd
    go_enter Tryd.func43, Tryd.ntmps43
    go_wp2_with fail
    clear h0
    refine wp_region_text ⟨[], [], 15⟩ (fun w' => ∃ x : X1, w' = f x) (by kernel_rfl) (by kernel_rfl) HF.out ?_
    refine wpC_seg false (HF.out) 15 0 _ _ (by rfl) (by rfl) ?_
    simp only [List.take_succ_cons, List.take_zero, List.drop_succ_cons, List.drop_zero, Bool.false_eq_true, if_false, Nat.zero_add, Nat.reduceAdd]
    repeat (go_big_quiet_step (fail))
    refine wpQuiet_nil ?_
    refine wpC_nil ?_
    clear hf1 hf2 hX1 HF
    go_wp2_with fail
    go_ret3
    exact ⟨rfl, HR.out⟩
  · rw [if_neg hcm]
    have hd2 : decide (m < c) = true := by simp; omega
    clear hcell
    go_enter Tryd.func43, Tryd.ntmps43
    go_wp2_with fail
    go_ret3
    exact ⟨rfl, Below.refl _ _⟩
end Go.Proofs.YtcoepekoacpgnaaDoor
