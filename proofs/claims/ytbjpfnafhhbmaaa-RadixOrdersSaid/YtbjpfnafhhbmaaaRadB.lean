/- radix: the laws' filled. -/
import Derived.Test.YtbjpfnafhhbmaaaRadA
import Derived.Test.YtbjpfnafhhbmaaaRad36
namespace Go.Proofs.Ytbjpfnafhhbmaaa.Rad
open Go.Proofs.Ytbjpfnafhhbmaaa
set_option linter.unusedVariables false
set_option linter.unusedSimpArgs false
open Go.RowKit RT
/-- A slice of identifiers that is only read. -/
def IdRow (w : World) (a : Option Addr) (len cap : Nat) (L : List (Nat × Nat)) : Prop :=
  L.length = len ∧ len ≤ cap ∧ (∀ x ∈ L, x.1 < 18446744073709551616 ∧ x.2 < 18446744073709551616) ∧ (len = 0 ∨ ∃ b o, a = some ⟨b, o, none⟩ ∧ ∀ i, i < len → w.cell? ⟨b, o + i * 2, none⟩ = some (.int .u64 (L.getD i (0, 0)).1) ∧ w.cell? ⟨b, o + i * 2 + 1, none⟩ = some (.int .u64 (L.getD i (0, 0)).2))
theorem IdRow.below {w w' : World} {a : Option Addr} {len cap : Nat} {L : List (Nat × Nat)} (h : IdRow w a len cap L) (hb : Below w.heap.size w w') : IdRow w' a len cap L := by
  refine ⟨h.1, h.2.1, h.2.2.1, h.2.2.2.imp id ?_⟩
  rintro ⟨b, o, e, hc⟩
  refine ⟨b, o, e, fun i hi => ?_⟩
  have hlt := World.block_lt_of_cell? w _ (hc i hi).1
  exact ⟨(hb.cell (p := ⟨b, o + i * 2, none⟩) hlt).trans (hc i hi).1, (hb.cell (p := ⟨b, o + i * 2 + 1, none⟩) hlt).trans (hc i hi).2⟩
/-- The tree of the first k identifiers, each with its place. -/
def fillK (L : List (Nat × Nat)) : Nat → Option RT
  | 0 => none
  | k + 1 => putO (fillK L k) (idBytes (L.getD k (0, 0)).1 (L.getD k (0, 0)).2) (k : Int)
theorem fillK_wf (L : List (Nat × Nat)) : ∀ k, WFO (fillK L k)
  | 0 => fun t e => by cases e
  | k + 1 => (fillK_wf L k).putO (idBytes_length _ _) _
theorem fillK_len (L : List (Nat × Nat)) : ∀ k, (itemsO (fillK L k)).length ≤ k
  | 0 => by simp [fillK, itemsO]
  | k + 1 => by
    rw [fillK, len_putO (fillK_wf L k) (idBytes_length _ _)]
    have := fillK_len L k
    split <;> omega
theorem radNewF (w : World) : Calls Try.prog 14 #[] w fun e w' => e = .returned (.pointer (some ⟨w.heap.size, 0, none⟩)) ∧ TreeF w' w.heap.size (fun k => k = w.heap.size) none 0 ∧ Below w.heap.size w w' := by
  refine (radNew w).mono ?_
  rintro e w' ⟨rfl, rfl⟩
  exact ⟨rfl, ⟨fun k hk => by subst hk; simp, heap_new _ _, rfl⟩, (Below.refl _ _).alloc (Nat.le_refl _) _⟩
set_option maxHeartbeats 1600000 in
set_option maxRecDepth 100000 in
theorem filled_any {w : World} {a : Option Addr} {len cap : Nat} {L : List (Nat × Nat)} (hr : IdRow w a len cap L) (hlen : len ≤ 1000) :
    Calls Try.prog 6 #[.slice a len cap] w fun e w' => ∃ p G, e = .returned (.pointer (some ⟨p, 0, none⟩)) ∧ TreeF w' p G (fillK L len) (itemsO (fillK L len)).length ∧ Below w.heap.size w w' ∧ ∀ k, G k → w.heap.size ≤ k := by
  have HR := Lib.hid hr
  have hcap := hr.2.1
  have HN := Lib.hid (radNewF w)
  clear hr
  go_enter Try.func6, Try.ntmps6
  go_wp2_with fail
  refine HN.out.mono ?_
  rintro e w1 ⟨rfl, ht, hb⟩
  have H1 := Lib.hid (And.intro ht hb)
  clear ht hb HN
  go_wp2_with fail
  go_loopw [4] (fun i wr => ∃ (k : Nat), k ≤ len ∧ i = .int .i64 k ∧ Hid (∃ G, TreeF wr w.heap.size G (fillK L k) (itemsO (fillK L k)).length ∧ Below w.heap.size w wr ∧ ∀ j, G j → w.heap.size ≤ j)) (fun i _ => len - (intOf i).toNat)
  case atStart => exact ⟨0, Nat.zero_le _, rfl, Lib.hid ⟨_, H1.out.1, H1.out.2, fun j hj => by subst hj; exact Nat.le_refl _⟩⟩
  case round =>
    obtain ⟨k, hk, rfl, hI⟩ := hrel
    obtain ⟨G, t1, t2, t3⟩ := hI.out
    by_cases hlt : k < len
    · obtain ⟨h1, h2, h3, h4⟩ := HR.out.below (t2.mono (Nat.le_refl _))
      obtain ⟨b, o, rfl, hc⟩ := h4.resolve_left (by omega)
      obtain ⟨c0, c1⟩ := hc k hlt
      have hx := h3 (L.getD k (0, 0)) (by rw [show L.getD k (0, 0) = L[k]'(by omega) by simp [List.getD, show k < L.length by omega]]; exact List.getElem_mem _)
      have hP := radPut t1 hx.1 hx.2 (k : Int) (by have := fillK_len L k; omega)
      have hf : fillK L (k + 1) = putO (fillK L k) (idBytes (L.getD k (0, 0)).1 (L.getD k (0, 0)).2) (k : Int) := rfl
      have hl := len_putO (fillK_wf L k) (idBytes_length (L.getD k (0, 0)).1 (L.getD k (0, 0)).2) (k : Int)
      rw [← hf] at hP hl
      rw [← hl] at hP
      have HP := Lib.hid hP
      obtain ⟨m, hm⟩ : ∃ m, (L.getD k (0, 0)).1 = m := ⟨_, rfl⟩
      obtain ⟨s, hs⟩ : ∃ s, (L.getD k (0, 0)).2 = s := ⟨_, rfl⟩
      rw [hm] at c0 HP
      rw [hs] at c1 HP
      have HT := Lib.hid (And.intro t1 (And.intro t2 t3))
      clear hP hl hf hx hc h1 h2 h3 h4 t1 t2 t3 hm hs hI
      go_wp2_with fail
      refine HP.out.mono ?_
      rintro e w2 ⟨rfl, G', p1, p2, p3⟩
      have HNx : Hid (∃ G, TreeF w2 w.heap.size G (fillK L (k + 1)) (itemsO (fillK L (k + 1))).length ∧ Below w.heap.size w w2 ∧ ∀ j, G j → w.heap.size ≤ j) := by
        refine Lib.hid ⟨G', p1, belowChg HT.out.2.1 p3 HT.out.2.1.size fun j hj _ => HT.out.2.2 j hj, fun j hj => ?_⟩
        rcases p2 j hj with h | h
        · exact HT.out.2.2 j h
        · have := HT.out.2.1.size; omega
      clear p1 p2 p3
      go_wp2_with fail
      go_roundw
      case rel => exact ⟨k + 1, by omega, by go_num, HNx⟩
      case measure => simp [intOf]; omega
    · obtain rfl : k = len := by omega
      have HT := Lib.hid (And.intro t1 (And.intro t2 t3))
      clear t1 t2 t3 hI
      go_wp2_with fail
      go_ret
      exact ⟨_, G, rfl, HT.out.1, HT.out.2.1, HT.out.2.2⟩
end Go.Proofs.Ytbjpfnafhhbmaaa.Rad
