/- what the library's variables hold, at a seat whose rows lay them. -/
import Derived.Test.YtcoepekoacpgnaaDoorShelf
import Derived.Test.YtcoepekoacpgnaaDoorCom
import Derived.Lib.AppendIntMem
import Derived.Lib.ItoaWalk
namespace Go.Proofs.YtcoepekoacpgnaaDoor
set_option linter.unusedVariables false
set_option linter.unusedSimpArgs false
open Go.RowKit Go.Sort Go.Lib
theorem var_below {P : Program} {w w' : World} {name : String} {r : Array Value} (h : w.var? P name = some r) (hb : Below w.heap.size w w') : w'.var? P name = some r := by
  unfold World.var? at *
  cases hg : P.globalNamed name with
  | none => simp [hg] at h
  | some g =>
    simp only [hg, Option.bind_some] at h ⊢
    have hlt : g < w.heap.size := by
      rcases Nat.lt_or_ge g w.heap.size with h' | h'
      · exact h'
      · rw [Array.getElem?_eq_none h'] at h; simp at h
    rw [hb.block g hlt]
    exact h
/-- What the library's variables hold. -/
structure Laid (w : World) : Prop where
  tab : Lib.TabIs Tryd.prog w "internal/strconv.uint64pow10" .u64 Lib.pow10Tab
  syn : ∃ tp p, w.var? Tryd.prog "strconv.ErrSyntax" = some #[.iface tp p]
  rng : ∃ tp p, w.var? Tryd.prog "strconv.ErrRange" = some #[.iface tp p]
theorem Laid.below {w w' : World} (h : Laid w) (hb : Below w.heap.size w w') : Laid w' := by
  refine { tab := Lib.tabBelow_of_tabIs h.tab w' hb, syn := ?_, rng := ?_
         }
  · obtain ⟨t2, p2, h2⟩ := h.syn; exact ⟨t2, p2, var_below h2 hb⟩
  · obtain ⟨t2, p2, h2⟩ := h.rng; exact ⟨t2, p2, var_below h2 hb⟩
end Go.Proofs.YtcoepekoacpgnaaDoor
