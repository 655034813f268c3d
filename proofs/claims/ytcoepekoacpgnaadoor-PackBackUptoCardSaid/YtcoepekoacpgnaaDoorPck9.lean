/- A pack in memory; gone, Len, Size, Bytes. -/
import Derived.Test.YtcoepekoacpgnaaDoorPck8
import Derived.Lib.SliceRun
namespace Go.Proofs.YtcoepekoacpgnaaDoor
set_option linter.unusedVariables false
set_option linter.unusedSimpArgs false
open Go.RowKit
@[go_sem] theorem eql_bytes_nilP (w : World) (a : Option Addr) (n c : Nat) : (binOp .eql 67 (.slice a n c) (.slice none 0 0)).run Tryd.prog w = .ok (.bool a.isNone) w :=
  Lib.run_eql_slice_nil w _ _ a n c 0 0 Tryd.underlying67
/-- What texts may be. -/
structure OKL (L : List ByteArray) : Prop where
  size : sizeP L ≤ 1073741824
  many : L.length ≤ 1048576
  each : ∀ s ∈ L, s.size ≤ 65536
/-- The cells of a pack: the struct in block p, the piece in block g. -/
structure PackRow (w : World) (p g cap : Nat) (cur : Array Value) (L : List ByteArray) : Prop where
  head : w.heap[p]? = some (.cells #[.slice (some ⟨g, 0, none⟩) (sizeP L) cap] 69 (0, 0))
  row : RowAt w g 5 cur
  size : cur.size = cap
  le : sizeP L ≤ cap
  capm : cap ≤ maxLen
  bytes : cur.toList.take (sizeP L) = (packL L).map u8v
  ok : OKL L
section
variable {w : World} {p g cap : Nat} {cur : Array Value} {L : List ByteArray}
theorem PackRow.cell0 (h : PackRow w p g cap cur L) : w.cell? ⟨p, 0, none⟩ = some (.slice (some ⟨g, 0, none⟩) (sizeP L) cap) := cell_in h.head rfl
theorem PackRow.ne (h : PackRow w p g cap cur L) : g ≠ p := by
  rintro rfl
  obtain ⟨fz, _, h2⟩ := h.row
  rw [h.head] at h2; cases h2
theorem PackRow.chg (h : PackRow w p g cap cur L) {S : Nat → Prop} {w' : World} (hc : Chg S w w') (h1 : ¬ S p) (h2 : ¬ S g) : PackRow w' p g cap cur L :=
  { h with head := hc.keep h.head h1, row := h.row.keep hc h2 }
theorem PackRow.cell (h : PackRow w p g cap cur L) {i : Nat} (hi : i < (packL L).length) : w.cell? ⟨g, i, none⟩ = some (.int .u8 (packL L)[i].toNat) := by
  refine h.row.cell ?_
  have hi' : i < sizeP L := by rw [packL_length] at hi; exact hi
  have e := congrArg (fun l => l[i]?) h.bytes
  simp only [List.getElem?_take_of_lt hi', Array.getElem?_toList, List.getElem?_map, List.getElem?_eq_getElem hi, Option.map_some] at e
  exact e
theorem PackRow.cells (h : PackRow w p g cap cur L) (o : Nat) {xs : List UInt8} (hx : ((packL L).drop o).take xs.length = xs) : ∀ i (hi : i < xs.length), w.cell? ⟨g, o + i, none⟩ = some (.int .u8 xs[i].toNat) := fun i hi => by
  have e := congrArg (fun l => l[i]?) hx
  simp only [List.getElem?_take_of_lt hi, List.getElem?_drop, List.getElem?_eq_getElem hi] at e
  obtain ⟨h1, h2⟩ := List.getElem?_eq_some_iff.1 e
  rw [h.cell h1, h2]
end
theorem sizeP_pos (L : List ByteArray) : 9 ≤ sizeP L := by unfold sizeP; omega
set_option maxHeartbeats 800000 in
set_option maxRecDepth 100000 in
theorem gone_row {w : World} {p g n cap : Nat} (h : w.cell? ⟨p, 0, none⟩ = some (.slice (some ⟨g, 0, none⟩) n cap)) :
    Calls Tryd.prog 40 #[.pointer (some ⟨p, 0, none⟩)] w fun e w' => e = .returned (.bool false) ∧ w = w' := by
  go_enter Tryd.func40, Tryd.ntmps40
  go_wp2_with fail
  go_ret
  exact ⟨rfl, rfl⟩
set_option maxHeartbeats 800000 in
set_option maxRecDepth 100000 in
/-- Len, whatever stands behind the head. -/
theorem plen_raw {w : World} {p g n cap : Nat} (xs : List UInt8) (hx : xs.length = 4) (h : w.cell? ⟨p, 0, none⟩ = some (.slice (some ⟨g, 0, none⟩) n cap)) (hn : 9 ≤ n) (hc : n ≤ cap) (hm : cap ≤ maxLen)
    (hcell : ∀ i (hi : i < xs.length), w.cell? ⟨g, 4 + i, none⟩ = some (.int .u8 xs[i].toNat)) :
    Calls Tryd.prog 19 #[.pointer (some ⟨p, 0, none⟩)] w fun e w' => e = .returned (.int .i64 (lowN xs : Nat)) ∧ w = w' := by
  have HG := Lib.hid (gone_row h)
  have HL := Lib.hid (low_any g 4 4 (cap - 4) xs w hx (by omega) hcell)
  have hlt : lowN xs < 4294967296 := by have := lowN_lt xs; rw [hx] at this; exact this
  unfold maxLen at hm
  clear hcell
  go_enter Tryd.func19, Tryd.ntmps19
  go_wp2_with fail
  refine HG.out.mono ?_
  rintro e w' ⟨rfl, rfl⟩
  go_wp2_with fail
  refine HL.out.mono ?_
  rintro e w' ⟨rfl, rfl⟩
  go_wp2_with fail
  go_ret
  exact ⟨rfl, rfl⟩
theorem plen_row {w : World} {p g cap : Nat} {cur : Array Value} {L : List ByteArray} (h : PackRow w p g cap cur L) :
    Calls Tryd.prog 19 #[.pointer (some ⟨p, 0, none⟩)] w fun e w' => e = .returned (.int .i64 L.length) ∧ w = w' := by
  have := plen_raw (leN 4 L.length) (by simp) h.cell0 (sizeP_pos L) h.le h.capm (h.cells 4 (by rw [leN_length]; exact packL_many L))
  rw [lowN_leN, Nat.mod_eq_of_lt (by have := h.ok.many; omega)] at this
  exact this
set_option maxHeartbeats 800000 in
set_option maxRecDepth 100000 in
theorem psize_row {w : World} {p g cap : Nat} {cur : Array Value} {L : List ByteArray} (h : PackRow w p g cap cur L) :
    Calls Tryd.prog 20 #[.pointer (some ⟨p, 0, none⟩)] w fun e w' => e = .returned (.int .i64 (sizeP L)) ∧ w = w' := by
  have HG := Lib.hid (gone_row h.cell0)
  have c0 := h.cell0
  clear h
  go_enter Tryd.func20, Tryd.ntmps20
  go_wp2_with fail
  refine HG.out.mono ?_
  rintro e w' ⟨rfl, rfl⟩
  go_wp2_with fail
  go_ret
  exact ⟨rfl, rfl⟩
set_option maxHeartbeats 800000 in
set_option maxRecDepth 100000 in
theorem pbytes_row {w : World} {p g cap : Nat} {cur : Array Value} {L : List ByteArray} (h : PackRow w p g cap cur L) :
    Calls Tryd.prog 14 #[.pointer (some ⟨p, 0, none⟩)] w fun e w' => e = .returned (.string (strOf (packL L))) ∧ w = w' := by
  have HG := Lib.hid (gone_row h.cell0)
  have c0 := h.cell0
  have hcv := cells_conv (w := w) (b := g) (o := 0) (cap := cap) (packL_length L) (fun i hi => by rw [Nat.zero_add]; exact h.cell hi)
  obtain ⟨S, hS⟩ : ∃ S, strOf (packL L) = S := ⟨_, rfl⟩
  rw [hS] at hcv ⊢
  clear h
  go_enter Tryd.func14, Tryd.ntmps14
  go_wp2_with fail
  refine HG.out.mono ?_
  rintro e w' ⟨rfl, rfl⟩
  go_wp2_with fail
  go_ret
  exact ⟨rfl, rfl⟩
end Go.Proofs.YtcoepekoacpgnaaDoor
