/-
  No cell of these rows narrows 'for every input' (looked for: loops, veiled, ifaces, maps, wideKeys, modest, calm, conditions, laid).
  DERIVED. THE GIVEN ROWS OF THIS SEAT. 2 by the template 'for every input the law returns true; each argument reads behind the call as it read before'; 0 by the template 'total and deterministic' (their statements: YtbjpfnafhhbmaaaTotals.lean).
  GIVEN WITH THE SEED: the statements are not yours to turn. If you find one false, say at which input.
  Laid BY PROGRAM, IN A SANDBOX (cutbox-rows.mjs): the forced cells as the released guide's own fill.sh prints them over the translation 366844199d26ab9a… (all of the seat's roots in one cut). By AI agents, Wed Nov 11 2026. No macro, syntax, notation, axiom, sorry.
-/
import Derived.Test.YtbjpfnafhhbmaaaChecked
import GoSem.Claim
import GoSem.ClaimJoined
import GoSem.ClaimMapViews
import Derived.JoinedTies
import Derived.KernelRfl
namespace Go.Proofs.Ytbjpfnafhhbmaaa
/- THE CELL 'sum', in the pinned program and in every row, IS THE sha256 OF THE DUMP (.gsa) THAT YtbjpfnafhhbmaaaProg.lean LOADS. Nothing in Lean hashes anything: it is a label: what it is worth is what the hold of that sum in a sandbox is worth. -/
noncomputable def Try.pinned : Pinned := { name := "ytbjpfnafhhbmaaa", sum := "366844199d26ab9aa29006a3859438d9e89973141b85bd3cde5bac0b4a3c0b4e", checked := Try.checked }
namespace Rows
def none {H : Type} : Left H := { results := [], args := [] }

/-- 'stillroomlaw10.RadixUndoes': WHATEVER THE INPUT: true; the input reads as it did. -/
def radixUndoesSpec : ChangeSpec := { name := "radixUndoes", fn := fun _ => fun
  | [d1, d2] => { results := [.lit (.bool true)], args := [d1, d2] }
  | _ => none }
def radixUndoesRow : OpenClaim := { program := "ytbjpfnafhhbmaaa", sum := "366844199d26ab9aa29006a3859438d9e89973141b85bd3cde5bac0b4a3c0b4e", func := "stillroom/stillroomlaw10.RadixUndoes", spec := "radixUndoes", unfollowed := true, recurses := true, apart := false }
def RadixUndoesSaid : Prop := radixUndoesRow.holds Try.pinned (OpenSpec.ofChange radixUndoesSpec)

/-- ITS FALSE NEIGHBOUR: 'it returns false'. Refute it at one input. -/
def radixUndoesWrong : ChangeSpec := { name := "radixUndoes", fn := fun _ => fun
  | [d1, d2] => { results := [.lit (.bool false)], args := [d1, d2] }
  | _ => none }
def RadixUndoesWrongFalsely : Prop := radixUndoesRow.holds Try.pinned (OpenSpec.ofChange radixUndoesWrong)

/-- 'stillroomlaw10.RadixOrders': WHATEVER THE INPUT: true; the input reads as it did. -/
def radixOrdersSpec : ChangeSpec := { name := "radixOrders", fn := fun _ => fun
  | [d1, d2] => { results := [.lit (.bool true)], args := [d1, d2] }
  | _ => none }
def radixOrdersRow : OpenClaim := { program := "ytbjpfnafhhbmaaa", sum := "366844199d26ab9aa29006a3859438d9e89973141b85bd3cde5bac0b4a3c0b4e", func := "stillroom/stillroomlaw10.RadixOrders", spec := "radixOrders", unfollowed := true, recurses := true, apart := false }
def RadixOrdersSaid : Prop := radixOrdersRow.holds Try.pinned (OpenSpec.ofChange radixOrdersSpec)

/-- ITS FALSE NEIGHBOUR: 'it returns false'. Refute it at one input. -/
def radixOrdersWrong : ChangeSpec := { name := "radixOrders", fn := fun _ => fun
  | [d1, d2] => { results := [.lit (.bool false)], args := [d1, d2] }
  | _ => none }
def RadixOrdersWrongFalsely : Prop := radixOrdersRow.holds Try.pinned (OpenSpec.ofChange radixOrdersWrong)

/- THE SECOND FORM. 'bulk': how many values and letters a reading holds, each counted each time it is reached (what is shared counts as often as it is met; a slice's spare places count too). A statement '..UptoSaid' is the law's where the arguments, and the package variables that the reading takes, are together of bulk at most 1048576: NARROWER than '..Said'. Prove '..Said' where nothing that the law and all that it calls make is longer than what came in: it says more and counts as full. Else prove '..UptoSaid'. A law counts once. -/
mutual
def uptoBulk {H : Type} : DataW H → Nat
  | .lit (.string bytes) => bytes.length + 1
  | .lit _ => 1
  | .nil => 1
  | .ptr d => uptoBulk d + 1
  | .slice elems spare => uptoBulkAll elems + uptoBulkAll spare + 1
  | .agg parts => uptoBulkAll parts + 1
  | .iface _ d => uptoBulk d + 1
  | .map entries => uptoBulkEntries entries + 1
  | .held _ => 1
def uptoBulkAll {H : Type} : List (DataW H) → Nat
  | [] => 0
  | d :: r => uptoBulk d + uptoBulkAll r
def uptoBulkEntries {H : Type} : List (Lit × DataW H) → Nat
  | [] => 0
  | x :: r => uptoBulkEntry x + uptoBulkEntries r
def uptoBulkEntry {H : Type} : Lit × DataW H → Nat
  | (.string bytes, d) => bytes.length + uptoBulk d + 1
  | (_, d) => uptoBulk d + 1
 end
def uptoSmall : (H : Type) → List (DataW H) → Bool := fun _ ds => decide (uptoBulkAll ds ≤ 1048576)
def OpenSpec.upto (s : _root_.Go.ChangeSpec) : _root_.Go.OpenSpec := { _root_.Go.OpenSpec.ofChange s with cond := some uptoSmall }

/-- 'stillroomlaw10.RadixUndoes', WHERE WHAT IT READS IS OF BULK AT MOST 1048576: true; the input reads as it did. -/
def radixUndoesUptoRow : OpenClaim := { program := "ytbjpfnafhhbmaaa", sum := "366844199d26ab9aa29006a3859438d9e89973141b85bd3cde5bac0b4a3c0b4e", func := "stillroom/stillroomlaw10.RadixUndoes", spec := "radixUndoes", unfollowed := true, recurses := true, apart := false, narrowed := true }
def RadixUndoesUptoSaid : Prop := radixUndoesUptoRow.holds Try.pinned (OpenSpec.upto radixUndoesSpec)

/-- 'stillroomlaw10.RadixOrders', WHERE WHAT IT READS IS OF BULK AT MOST 1048576: true; the input reads as it did. -/
def radixOrdersUptoRow : OpenClaim := { program := "ytbjpfnafhhbmaaa", sum := "366844199d26ab9aa29006a3859438d9e89973141b85bd3cde5bac0b4a3c0b4e", func := "stillroom/stillroomlaw10.RadixOrders", spec := "radixOrders", unfollowed := true, recurses := true, apart := false, narrowed := true }
def RadixOrdersUptoSaid : Prop := radixOrdersUptoRow.holds Try.pinned (OpenSpec.upto radixOrdersSpec)

end Rows
end Go.Proofs.Ytbjpfnafhhbmaaa
