/- Opening slices that came in, at a row that bounds what it reads. -/
import Derived.Test.YtcoepekoacpgnaaDoorRows
import Derived.Test.YtcoepekoacpgnaaDoorTxt
import Derived.Test.YtcoepekoacpgnaaDoorArgs
import Derived.ChangeSame
namespace Go.Proofs.YtcoepekoacpgnaaDoor
set_option linter.unusedVariables false
set_option linter.unusedSimpArgs false
open Go.RowKit Go.ChangeShapes Go.WideShapes Go.Deep
section
variable {H : Type} {enc : TypeId × Value → H} {w : World} {base : Nat} {spare : Nat → Bool} {held : Bool} {fuel : Nat}
theorem bulk_partT {d : DataW H} {l : List (DataW H)} (h : d ∈ l) : Rows.uptoBulk d ≤ Rows.uptoBulkAll l := by
  induction l with
  | nil => cases h
  | cons x r ih =>
    simp only [Rows.uptoBulkAll]
    rcases List.mem_cons.1 h with e | e
    · subst e; omega
    · have := ih e; omega
theorem bulk_texts (f : Nat → DataW H) (S : Nat → ByteArray) : ∀ (l : List Nat), (∀ i ∈ l, f i = .lit (.string (S i).data.toList)) → totalT (l.map S) ≤ Rows.uptoBulkAll (l.map f)
  | [], _ => by simp [totalT]
  | i :: l, h => by
    have h1 := bulk_texts f S l fun j hj => h j (by simp [hj])
    have h2 := h i (by simp)
    have e : (S i).data.toList.length = (S i).size := by rw [Array.length_toList]; rfl
    unfold totalT at *
    simp only [List.map_cons, Rows.uptoBulkAll, h2, Rows.uptoBulk, List.length_cons, List.sum_cons]
    omega
/-- A slice of texts. -/
theorem texts_arg {a : Option Addr} {len cap : Nat} {d : DataW H} {ps : List MemPlace} (h : DataW.Trod enc Tryd.prog w base spare held 22 (.slice a len cap) d ps) (hb : Rows.uptoBulk d ≤ 1048576) :
    ∃ zs : List ByteArray, (zs.length = len ∧ ArgRow w a len cap (fun i => .string (zs.getD i ByteArray.empty))) ∧ totalT zs ≤ 1048576 := by
  obtain ⟨fuel, hf⟩ := h
  rcases open_slice1 Tryd.underlying22 (by kernel_rfl) hf with ⟨hcs, _⟩ | ⟨x, l, c, m, n, V, D, Pl, hcs, hx, hl, hm, hmm, hd, hV⟩
  · simp [Value.cells] at hcs
    obtain ⟨rfl, rfl, rfl⟩ := hcs
    exact ⟨[], ⟨rfl, Nat.le_refl _, .inl rfl⟩, by decide⟩
  · simp [Value.cells] at hcs
    obtain ⟨rfl, rfl, rfl⟩ := hcs
    have hle : len ≤ m := by rw [hmm]; split <;> omega
    have each : ∀ i, i < m → ∃ s : ByteArray, V i = .string s ∧ D i = .lit (.string s.data.toList) := fun i hi => by
      obtain ⟨s, hs, hd, _⟩ := DataW.trod_string Tryd.underlying9 (hV i hi).2
      exact ⟨s, by simpa using hs, (Prod.mk.inj hd).1⟩
    obtain ⟨S, hS⟩ := choose_lt each
    have hd1 : d = .slice ((List.range len).map D) ((List.range (m - len)).map fun j => D (len + j)) := (Prod.mk.inj hd).1
    rw [hd1] at hb
    simp only [Rows.uptoBulk] at hb
    refine ⟨(List.range len).map S, ⟨by simp, argRow_of hl fun i hi => ?_⟩, ?_⟩
    · rw [(hV i (by omega)).1, (hS i (by omega)).1]
      simp [List.getD, hi]
    · have := bulk_texts D S (List.range len) fun i hi => (hS i (by have := List.mem_range.1 hi; omega)).2
      omega
end
end Go.Proofs.YtcoepekoacpgnaaDoor
