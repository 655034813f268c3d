/- Words that more than one layer needs: the block of a slice, slices that lie as they were, bytes appended. -/
import Derived.Test.YtcoepekoacpgnaaDoorRows
import Derived.Test.YtcoepekoacpgnaaDoorLoc
import Derived.Test.YtcoepekoacpgnaaDoorStr
import Derived.Test.YtcoepekoacpgnaaDoorReg
namespace Go.Proofs.YtcoepekoacpgnaaDoor
set_option linter.unusedVariables false
set_option linter.unusedSimpArgs false
open Go.RowKit
def vblock : Value → Option Nat
  | .slice (some a) _ _ => some a.block
  | _ => none
theorem SliceIs.chg {w : World} {B : Nat} {e : TypeId} {v : Value} {n : Nat} {xs : List Value} (h : SliceIs w B e v n xs) {S : Nat → Prop} {w' : World} (hc : Chg S w w') (hn : ∀ k, vblock v = some k → ¬ S k) : SliceIs w' B e v n xs := by
  refine ⟨h.1, h.2.imp id ?_⟩
  rintro ⟨g, cap, cur, rfl, h2, h3, h4⟩
  exact ⟨g, cap, cur, rfl, h2, h3.keep hc (hn g rfl), h4⟩
theorem SliceIs.block_lt {w : World} {B : Nat} {e : TypeId} {v : Value} {n : Nat} {xs : List Value} (h : SliceIs w B e v n xs) {k : Nat} (hk : vblock v = some k) : B ≤ k ∧ k < w.heap.size := by
  rcases h.2 with ⟨rfl, rfl⟩ | ⟨g, cap, cur, rfl, h2, h3, h4⟩
  · cases hk
  · cases hk; exact ⟨h2, h3.lt⟩
theorem setCell_head {w : World} {r : Nat} {cs : Array Value} {E : TypeId} (h : w.heap[r]? = some (.cells cs E (0, 0))) (i : Nat) (v : Value) : (w.setCell ⟨r, i, none⟩ v).heap[r]? = some (.cells (cs.setIfInBounds i v) E (0, 0)) := by
  rw [setCell_eq_setRow w r i _ _ _ _ h]; exact heap_setRow h _
theorem SliceIs.mono {w : World} {B B' : Nat} {e : TypeId} {v : Value} {n : Nat} {xs : List Value} (h : SliceIs w B e v n xs) (hB : B' ≤ B) : SliceIs w B' e v n xs := by
  refine ⟨h.1, h.2.imp id ?_⟩
  rintro ⟨g, cap, cur, rfl, h2, h3⟩
  exact ⟨g, cap, cur, rfl, Nat.le_trans hB h2, h3⟩
theorem info_u8 : (Tryd.prog.info? 5).map (fun i => (i.zero, i.size, i.bytes)) = some (some (.int .u8 0), 1, 1) := by kernel_rfl
theorem append8 {w : World} {B n : Nat} {v : Value} {xs : List UInt8} (h : SliceIs w B 5 v n (xs.map u8v)) (hB : B ≤ w.heap.size) (x : UInt8) (hn : n + 1 ≤ 1000000000) :
    ∃ v' w', (Builtin.append_ #[67, 67] 67 #[v, .slice (some ⟨w.heap.size, 0, none⟩) 1 1]).run Tryd.prog (w.alloc (.cells #[u8v x] 5)) = .ok v' w' ∧ SliceIs w' B 5 v' (n + 1) ((xs ++ [x]).map u8v) ∧ Below B w w' := by
  obtain ⟨i0, g1, g2, g3, g4⟩ := info_parts info_u8
  have := run_append_one (P := Tryd.prog) (t := 67) (ty := 67) Tryd.underlying67 g1 g2 g3 g4 rfl h hB (u8v x) rfl (by unfold maxLen; omega) (by omega)
  rw [List.map_append]
  exact this
theorem u8v_of (n : Nat) : u8v (UInt8.ofNat n) = .int .u8 ((n : Int) % 256) := by
  simp [u8v]
/-- Append to a slice of an object's own: its row may have been written, or a new one has been made. -/
theorem run_append_own {P : Program} {w : World} {e : TypeId} {v : Value} {n : Nat} {xs : List Value} {t ty : TypeId} {i : TypeInfo} {z : Value} {bytes : Nat} (ht : P.underlying t = some (.slice e)) (hi : P.info? e = some i) (hz : i.zero = some z)
    (hsize : i.size = 1) (hby : i.bytes = bytes) (hzs : z.cells.size = 1) (h : SliceIs w 0 e v n xs)
    (a : Addr) (m c : Nat) (news : List Value) (hm : 0 < m) (hl : news.length = m) (hnews : ∀ j u, news[j]? = some u → w.cell? (a.add j) = some u) (h1 : ∀ u ∈ news, u.oneCell' = true)
    (h63 : n + m ≤ maxLen) (hbytes : (n + m) * bytes ≤ 140737488355328) :
    ∃ v' w', (Builtin.append_ #[t, t] ty #[v, .slice (some a) m c]).run P w = .ok v' w' ∧ SliceIs w' 0 e v' (n + m) (xs ++ news) ∧ Chg (fun k => vblock v = some k) w w' ∧ (vblock v' = vblock v ∨ ∃ k, vblock v' = some k ∧ w.heap.size ≤ k) := by
  have fin : ∀ (g : Option Nat) (olds : List Value) v' w', g = vblock v → olds = xs → Appended w e 1 g olds news (n + m) v' w' → SliceIs w' 0 e v' (n + m) (xs ++ news) ∧ Chg (fun k => vblock v = some k) w w' ∧ (vblock v' = vblock v ∨ ∃ k, vblock v' = some k ∧ w.heap.size ≤ k) := by
    rintro g olds v' w' rfl rfl ⟨g', cap', cur', rfl, q1, q2, q3, q4, q5, q6, q7⟩
    refine ⟨⟨by rw [List.length_append, h.1, hl], .inr ⟨g', cap', cur', rfl, Nat.zero_le _, q1, by omega, q3, q4, by rw [← q5, Nat.mul_one]⟩⟩, q7.mono fun k hk _ => hk.symm, q6.imp id fun h => ⟨g', rfl, h⟩⟩
  rcases h.2 with ⟨rfl, rfl⟩ | ⟨g, cap, cur, rfl, h2, h3, h4, h5, h6, h7⟩
  · obtain ⟨v', w', hr, hp⟩ := run_append_row_nil (P := P) w t ty e i z 1 bytes ht hi hz hsize hby hzs a m c news hm (by omega) hnews (by omega) (by simpa using hbytes)
    have hx : [] = xs := (List.eq_nil_of_length_eq_zero h.1).symm
    refine ⟨v', w', hr, fin none [] v' w' rfl hx ?_⟩
    rw [Nat.zero_add]; exact hp
  · obtain ⟨v', w', hr, hp⟩ := run_append_row (P := P) w t ty e i z 1 bytes ht hi hz hsize hby hzs g n cap cur h3 (by omega) h5 h6 a m c news (by omega) hnews h1 h63 hbytes
    exact ⟨v', w', hr, fin (some g) _ v' w' rfl (by rw [Nat.mul_one]; exact h7) hp⟩
theorem run_append_own1 {P : Program} {w : World} {e : TypeId} {v : Value} {n : Nat} {xs : List Value} {t ty : TypeId} {i : TypeInfo} {z : Value} {bytes : Nat} (ht : P.underlying t = some (.slice e)) (hi : P.info? e = some i) (hz : i.zero = some z)
    (hsize : i.size = 1) (hby : i.bytes = bytes) (hzs : z.cells.size = 1) (h : SliceIs w 0 e v n xs) (u : Value) (hu : u.oneCell' = true) (h63 : n + 1 ≤ maxLen) (hbytes : (n + 1) * bytes ≤ 140737488355328) :
    ∃ v' w', (Builtin.append_ #[t, t] ty #[v, .slice (some ⟨w.heap.size, 0, none⟩) 1 1]).run P (w.alloc (.cells #[u] e)) = .ok v' w' ∧ SliceIs w' 0 e v' (n + 1) (xs ++ [u]) ∧ Chg (fun k => vblock v = some k) w w' ∧ (vblock v' = vblock v ∨ ∃ k, vblock v' = some k ∧ w.heap.size ≤ k) := by
  have hb : Below w.heap.size w (w.alloc (.cells #[u] e)) := (Below.refl _ _).alloc (Nat.le_refl _) _
  obtain ⟨v', w', hr, h2, h3, h4⟩ := run_append_own (P := P) (ty := ty) ht hi hz hsize hby hzs (h.below hb) ⟨w.heap.size, 0, none⟩ 1 1 [u] (by omega) rfl (fun j x hx => by
    have hj : j = 0 := by have := (List.getElem?_eq_some_iff.1 hx).1; simpa using this
    subst hj
    rw [Addr.add_lit]
    refine cell_in (heap_new w _) ?_
    simpa using hx) (by simpa using hu) h63 hbytes
  exact ⟨v', w', hr, h2, (Chg.alloc (fun k => vblock v = some k) w _).trans h3 fun k hk _ => hk, h4.imp id fun ⟨k, e, hk⟩ => ⟨k, e, by simp at hk; omega⟩⟩
/-- The blocks behind a step: the old ones or new ones. -/
def Fresh (w : World) (F F' : Nat → Prop) : Prop := ∀ k, F' k → F k ∨ w.heap.size ≤ k
end Go.Proofs.YtcoepekoacpgnaaDoor
