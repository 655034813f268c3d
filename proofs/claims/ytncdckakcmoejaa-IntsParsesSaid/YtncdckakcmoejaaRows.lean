/-
  No cell of these rows narrows 'for every input' (looked for: loops, veiled, ifaces, maps, wideKeys, modest, calm, conditions, laid).
  DERIVED. THE GIVEN ROWS OF THIS SEAT. 8 by the template 'for every input the law returns true; each argument reads behind the call as it read before'; 0 by the template 'total and deterministic' (their statements: YtncdckakcmoejaaTotals.lean).
  GIVEN WITH THE SEED: the statements are not yours to turn. If you find one false, say at which input.
  Laid BY PROGRAM, IN A SANDBOX (cutbox-rows.mjs): the forced cells as the released guide's own fill.sh prints them over the translation 398ab58dd514f250… (all of the seat's roots in one cut). By AI agents, Wed Nov 11 2026. No macro, syntax, notation, axiom, sorry.
-/
import Derived.Test.YtncdckakcmoejaaChecked
import GoSem.Claim
import GoSem.ClaimJoined
import GoSem.ClaimMapViews
import Derived.JoinedTies
import Derived.KernelRfl
namespace Go.Proofs.Ytncdckakcmoejaa
/- THE CELL 'sum', in the pinned program and in every row, IS THE sha256 OF THE DUMP (.gsa) THAT YtncdckakcmoejaaProg.lean LOADS. Nothing in Lean hashes anything: it is a label: what it is worth is what the hold of that sum in a sandbox is worth. -/
noncomputable def Try.pinned : Pinned := { name := "ytncdckakcmoejaa", sum := "398ab58dd514f25043f0a8981f9a0385e4dac0960b0b3939e948b6d2d75827d1", checked := Try.checked }
namespace Rows
def none {H : Type} : Left H := { results := [], args := [] }

/-- 'stillroomlaw01.NumSums': WHATEVER THE INPUT: true; the input reads as it did. -/
def numSumsSpec : ChangeSpec := { name := "numSums", fn := fun _ => fun
  | [d1, d2, d3] => { results := [.lit (.bool true)], args := [d1, d2, d3] }
  | _ => none }
def numSumsRow : OpenClaim := { program := "ytncdckakcmoejaa", sum := "398ab58dd514f25043f0a8981f9a0385e4dac0960b0b3939e948b6d2d75827d1", func := "stillroom/stillroomlaw01.NumSums", spec := "numSums", apart := false }
def NumSumsSaid : Prop := numSumsRow.holds Try.pinned (OpenSpec.ofChange numSumsSpec)

/-- ITS FALSE NEIGHBOUR: 'it returns false'. Refute it at one input. -/
def numSumsWrong : ChangeSpec := { name := "numSums", fn := fun _ => fun
  | [d1, d2, d3] => { results := [.lit (.bool false)], args := [d1, d2, d3] }
  | _ => none }
def NumSumsWrongFalsely : Prop := numSumsRow.holds Try.pinned (OpenSpec.ofChange numSumsWrong)

/-- 'stillroomlaw06.IntsBack': WHATEVER THE INPUT: true; the input reads as it did. -/
def intsBackSpec : ChangeSpec := { name := "intsBack", fn := fun _ => fun
  | [d1, d2] => { results := [.lit (.bool true)], args := [d1, d2] }
  | _ => none }
def intsBackRow : OpenClaim := { program := "ytncdckakcmoejaa", sum := "398ab58dd514f25043f0a8981f9a0385e4dac0960b0b3939e948b6d2d75827d1", func := "stillroom/stillroomlaw06.IntsBack", spec := "intsBack", unfollowed := true, recurses := true, apart := false }
def IntsBackSaid : Prop := intsBackRow.holds Try.pinned (OpenSpec.ofChange intsBackSpec)

/-- ITS FALSE NEIGHBOUR: 'it returns false'. Refute it at one input. -/
def intsBackWrong : ChangeSpec := { name := "intsBack", fn := fun _ => fun
  | [d1, d2] => { results := [.lit (.bool false)], args := [d1, d2] }
  | _ => none }
def IntsBackWrongFalsely : Prop := intsBackRow.holds Try.pinned (OpenSpec.ofChange intsBackWrong)

/-- 'stillroomlaw06.IntsPlays': WHATEVER THE INPUT: true; the input reads as it did. -/
def intsPlaysSpec : ChangeSpec := { name := "intsPlays", fn := fun _ => fun
  | [d] => { results := [.lit (.bool true)], args := [d] }
  | _ => none }
def intsPlaysRow : OpenClaim := { program := "ytncdckakcmoejaa", sum := "398ab58dd514f25043f0a8981f9a0385e4dac0960b0b3939e948b6d2d75827d1", func := "stillroom/stillroomlaw06.IntsPlays", spec := "intsPlays", unfollowed := true, recurses := true, apart := false }
def IntsPlaysSaid : Prop := intsPlaysRow.holds Try.pinned (OpenSpec.ofChange intsPlaysSpec)

/-- ITS FALSE NEIGHBOUR: 'it returns false'. Refute it at one input. -/
def intsPlaysWrong : ChangeSpec := { name := "intsPlays", fn := fun _ => fun
  | [d] => { results := [.lit (.bool false)], args := [d] }
  | _ => none }
def IntsPlaysWrongFalsely : Prop := intsPlaysRow.holds Try.pinned (OpenSpec.ofChange intsPlaysWrong)

/-- 'stillroomlaw06.IntsOrders': WHATEVER THE INPUT: true; the input reads as it did. -/
def intsOrdersSpec : ChangeSpec := { name := "intsOrders", fn := fun _ => fun
  | [d1, d2] => { results := [.lit (.bool true)], args := [d1, d2] }
  | _ => none }
def intsOrdersRow : OpenClaim := { program := "ytncdckakcmoejaa", sum := "398ab58dd514f25043f0a8981f9a0385e4dac0960b0b3939e948b6d2d75827d1", func := "stillroom/stillroomlaw06.IntsOrders", spec := "intsOrders", unfollowed := true, recurses := true, apart := false }
def IntsOrdersSaid : Prop := intsOrdersRow.holds Try.pinned (OpenSpec.ofChange intsOrdersSpec)

/-- ITS FALSE NEIGHBOUR: 'it returns false'. Refute it at one input. -/
def intsOrdersWrong : ChangeSpec := { name := "intsOrders", fn := fun _ => fun
  | [d1, d2] => { results := [.lit (.bool false)], args := [d1, d2] }
  | _ => none }
def IntsOrdersWrongFalsely : Prop := intsOrdersRow.holds Try.pinned (OpenSpec.ofChange intsOrdersWrong)

/-- 'stillroomlaw10.RadixUndoes': WHATEVER THE INPUT: true; the input reads as it did. -/
def radixUndoesSpec : ChangeSpec := { name := "radixUndoes", fn := fun _ => fun
  | [d1, d2] => { results := [.lit (.bool true)], args := [d1, d2] }
  | _ => none }
def radixUndoesRow : OpenClaim := { program := "ytncdckakcmoejaa", sum := "398ab58dd514f25043f0a8981f9a0385e4dac0960b0b3939e948b6d2d75827d1", func := "stillroom/stillroomlaw10.RadixUndoes", spec := "radixUndoes", unfollowed := true, recurses := true, apart := false }
def RadixUndoesSaid : Prop := radixUndoesRow.holds Try.pinned (OpenSpec.ofChange radixUndoesSpec)

/-- ITS FALSE NEIGHBOUR: 'it returns false'. Refute it at one input. -/
def radixUndoesWrong : ChangeSpec := { name := "radixUndoes", fn := fun _ => fun
  | [d1, d2] => { results := [.lit (.bool false)], args := [d1, d2] }
  | _ => none }
def RadixUndoesWrongFalsely : Prop := radixUndoesRow.holds Try.pinned (OpenSpec.ofChange radixUndoesWrong)

/-- 'stillroomlaw06.IntsParses': WHATEVER THE INPUT: true; the input reads as it did. -/
def intsParsesSpec : ChangeSpec := { name := "intsParses", fn := fun _ => fun
  | [d1, d2] => { results := [.lit (.bool true)], args := [d1, d2] }
  | _ => none }
def intsParsesRow : OpenClaim := { program := "ytncdckakcmoejaa", sum := "398ab58dd514f25043f0a8981f9a0385e4dac0960b0b3939e948b6d2d75827d1", func := "stillroom/stillroomlaw06.IntsParses", spec := "intsParses", unfollowed := true, recurses := true, apart := false }
def IntsParsesSaid : Prop := intsParsesRow.holds Try.pinned (OpenSpec.ofChange intsParsesSpec)

/-- ITS FALSE NEIGHBOUR: 'it returns false'. Refute it at one input. -/
def intsParsesWrong : ChangeSpec := { name := "intsParses", fn := fun _ => fun
  | [d1, d2] => { results := [.lit (.bool false)], args := [d1, d2] }
  | _ => none }
def IntsParsesWrongFalsely : Prop := intsParsesRow.holds Try.pinned (OpenSpec.ofChange intsParsesWrong)

/-- 'stillroomlaw06.IntsGoes': WHATEVER THE INPUT: true; the input reads as it did. -/
def intsGoesSpec : ChangeSpec := { name := "intsGoes", fn := fun _ => fun
  | [d1, d2] => { results := [.lit (.bool true)], args := [d1, d2] }
  | _ => none }
def intsGoesRow : OpenClaim := { program := "ytncdckakcmoejaa", sum := "398ab58dd514f25043f0a8981f9a0385e4dac0960b0b3939e948b6d2d75827d1", func := "stillroom/stillroomlaw06.IntsGoes", spec := "intsGoes", unfollowed := true, recurses := true, apart := false }
def IntsGoesSaid : Prop := intsGoesRow.holds Try.pinned (OpenSpec.ofChange intsGoesSpec)

/-- ITS FALSE NEIGHBOUR: 'it returns false'. Refute it at one input. -/
def intsGoesWrong : ChangeSpec := { name := "intsGoes", fn := fun _ => fun
  | [d1, d2] => { results := [.lit (.bool false)], args := [d1, d2] }
  | _ => none }
def IntsGoesWrongFalsely : Prop := intsGoesRow.holds Try.pinned (OpenSpec.ofChange intsGoesWrong)

/-- 'stillroomlaw10.RadixOrders': WHATEVER THE INPUT: true; the input reads as it did. -/
def radixOrdersSpec : ChangeSpec := { name := "radixOrders", fn := fun _ => fun
  | [d1, d2] => { results := [.lit (.bool true)], args := [d1, d2] }
  | _ => none }
def radixOrdersRow : OpenClaim := { program := "ytncdckakcmoejaa", sum := "398ab58dd514f25043f0a8981f9a0385e4dac0960b0b3939e948b6d2d75827d1", func := "stillroom/stillroomlaw10.RadixOrders", spec := "radixOrders", unfollowed := true, recurses := true, apart := false }
def RadixOrdersSaid : Prop := radixOrdersRow.holds Try.pinned (OpenSpec.ofChange radixOrdersSpec)

/-- ITS FALSE NEIGHBOUR: 'it returns false'. Refute it at one input. -/
def radixOrdersWrong : ChangeSpec := { name := "radixOrders", fn := fun _ => fun
  | [d1, d2] => { results := [.lit (.bool false)], args := [d1, d2] }
  | _ => none }
def RadixOrdersWrongFalsely : Prop := radixOrdersRow.holds Try.pinned (OpenSpec.ofChange radixOrdersWrong)

/- THE SECOND FORM. 'bulk': how many values and letters a reading holds, each counted each time it is reached (what is shared counts as often as it is met; a slice's spare places count too). A statement '..UptoSaid' is the law's where the arguments, and the package variables that the reading takes, are together of bulk at most 1048576: NARROWER than '..Said'. Prove '..Said' where nothing that the law and all that it calls make is longer than what came in: it says more and counts as full. Else prove '..UptoSaid'. A law counts once. -/
mutual
def uptoBulk {H : Type} : DataW H → Nat
  | .lit (.string bytes) => bytes.length + 1
  | .lit _ => 1
  | .nil => 1
  | .ptr d => uptoBulk d + 1
  | .slice elems spare => uptoBulkAll elems + uptoBulkAll spare + 1
  | .agg parts => uptoBulkAll parts + 1
  | .iface _ d => uptoBulk d + 1
  | .map entries => uptoBulkEntries entries + 1
  | .held _ => 1
def uptoBulkAll {H : Type} : List (DataW H) → Nat
  | [] => 0
  | d :: r => uptoBulk d + uptoBulkAll r
def uptoBulkEntries {H : Type} : List (Lit × DataW H) → Nat
  | [] => 0
  | x :: r => uptoBulkEntry x + uptoBulkEntries r
def uptoBulkEntry {H : Type} : Lit × DataW H → Nat
  | (.string bytes, d) => bytes.length + uptoBulk d + 1
  | (_, d) => uptoBulk d + 1
 end
def uptoSmall : (H : Type) → List (DataW H) → Bool := fun _ ds => decide (uptoBulkAll ds ≤ 1048576)
def OpenSpec.upto (s : _root_.Go.ChangeSpec) : _root_.Go.OpenSpec := { _root_.Go.OpenSpec.ofChange s with cond := some uptoSmall }

/-- 'stillroomlaw01.NumSums', WHERE WHAT IT READS IS OF BULK AT MOST 1048576: true; the input reads as it did. -/
def numSumsUptoRow : OpenClaim := { program := "ytncdckakcmoejaa", sum := "398ab58dd514f25043f0a8981f9a0385e4dac0960b0b3939e948b6d2d75827d1", func := "stillroom/stillroomlaw01.NumSums", spec := "numSums", apart := false, narrowed := true }
def NumSumsUptoSaid : Prop := numSumsUptoRow.holds Try.pinned (OpenSpec.upto numSumsSpec)

/-- 'stillroomlaw06.IntsBack', WHERE WHAT IT READS IS OF BULK AT MOST 1048576: true; the input reads as it did. -/
def intsBackUptoRow : OpenClaim := { program := "ytncdckakcmoejaa", sum := "398ab58dd514f25043f0a8981f9a0385e4dac0960b0b3939e948b6d2d75827d1", func := "stillroom/stillroomlaw06.IntsBack", spec := "intsBack", unfollowed := true, recurses := true, apart := false, narrowed := true }
def IntsBackUptoSaid : Prop := intsBackUptoRow.holds Try.pinned (OpenSpec.upto intsBackSpec)

/-- 'stillroomlaw06.IntsPlays', WHERE WHAT IT READS IS OF BULK AT MOST 1048576: true; the input reads as it did. -/
def intsPlaysUptoRow : OpenClaim := { program := "ytncdckakcmoejaa", sum := "398ab58dd514f25043f0a8981f9a0385e4dac0960b0b3939e948b6d2d75827d1", func := "stillroom/stillroomlaw06.IntsPlays", spec := "intsPlays", unfollowed := true, recurses := true, apart := false, narrowed := true }
def IntsPlaysUptoSaid : Prop := intsPlaysUptoRow.holds Try.pinned (OpenSpec.upto intsPlaysSpec)

/-- 'stillroomlaw06.IntsOrders', WHERE WHAT IT READS IS OF BULK AT MOST 1048576: true; the input reads as it did. -/
def intsOrdersUptoRow : OpenClaim := { program := "ytncdckakcmoejaa", sum := "398ab58dd514f25043f0a8981f9a0385e4dac0960b0b3939e948b6d2d75827d1", func := "stillroom/stillroomlaw06.IntsOrders", spec := "intsOrders", unfollowed := true, recurses := true, apart := false, narrowed := true }
def IntsOrdersUptoSaid : Prop := intsOrdersUptoRow.holds Try.pinned (OpenSpec.upto intsOrdersSpec)

/-- 'stillroomlaw10.RadixUndoes', WHERE WHAT IT READS IS OF BULK AT MOST 1048576: true; the input reads as it did. -/
def radixUndoesUptoRow : OpenClaim := { program := "ytncdckakcmoejaa", sum := "398ab58dd514f25043f0a8981f9a0385e4dac0960b0b3939e948b6d2d75827d1", func := "stillroom/stillroomlaw10.RadixUndoes", spec := "radixUndoes", unfollowed := true, recurses := true, apart := false, narrowed := true }
def RadixUndoesUptoSaid : Prop := radixUndoesUptoRow.holds Try.pinned (OpenSpec.upto radixUndoesSpec)

/-- 'stillroomlaw06.IntsParses', WHERE WHAT IT READS IS OF BULK AT MOST 1048576: true; the input reads as it did. -/
def intsParsesUptoRow : OpenClaim := { program := "ytncdckakcmoejaa", sum := "398ab58dd514f25043f0a8981f9a0385e4dac0960b0b3939e948b6d2d75827d1", func := "stillroom/stillroomlaw06.IntsParses", spec := "intsParses", unfollowed := true, recurses := true, apart := false, narrowed := true }
def IntsParsesUptoSaid : Prop := intsParsesUptoRow.holds Try.pinned (OpenSpec.upto intsParsesSpec)

/-- 'stillroomlaw06.IntsGoes', WHERE WHAT IT READS IS OF BULK AT MOST 1048576: true; the input reads as it did. -/
def intsGoesUptoRow : OpenClaim := { program := "ytncdckakcmoejaa", sum := "398ab58dd514f25043f0a8981f9a0385e4dac0960b0b3939e948b6d2d75827d1", func := "stillroom/stillroomlaw06.IntsGoes", spec := "intsGoes", unfollowed := true, recurses := true, apart := false, narrowed := true }
def IntsGoesUptoSaid : Prop := intsGoesUptoRow.holds Try.pinned (OpenSpec.upto intsGoesSpec)

/-- 'stillroomlaw10.RadixOrders', WHERE WHAT IT READS IS OF BULK AT MOST 1048576: true; the input reads as it did. -/
def radixOrdersUptoRow : OpenClaim := { program := "ytncdckakcmoejaa", sum := "398ab58dd514f25043f0a8981f9a0385e4dac0960b0b3939e948b6d2d75827d1", func := "stillroom/stillroomlaw10.RadixOrders", spec := "radixOrders", unfollowed := true, recurses := true, apart := false, narrowed := true }
def RadixOrdersUptoSaid : Prop := radixOrdersUptoRow.holds Try.pinned (OpenSpec.upto radixOrdersSpec)

end Rows
end Go.Proofs.Ytncdckakcmoejaa
