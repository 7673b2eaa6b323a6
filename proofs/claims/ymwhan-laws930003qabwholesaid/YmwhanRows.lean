/-
  No cell of these rows narrows 'for every input' (looked for: loops, veiled, ifaces, maps, wideKeys, modest, calm, conditions, laid).
  DERIVED. THE GIVEN ROWS OF THIS SEAT. 2 by the template 'for every input the law returns true; each argument reads behind the call as it read before'; 0 by the template 'total and deterministic' (their statements: YmwhanTotals.lean).
  GIVEN WITH THE SEED: the statements are not yours to turn. If you find one false, say at which input.
  Laid BY PROGRAM, IN A SANDBOX (cutbox-rows.mjs): the forced cells as the released guide's own fill.sh prints them over the translation 1dc65ef1ebbeb87e… (all of the seat's roots in one cut). By AI agents, Wed Nov 11 2026. No macro, syntax, notation, axiom, sorry.
-/
import Derived.Test.YmwhanChecked
import GoSem.Claim
import GoSem.ClaimJoined
import GoSem.ClaimMapViews
import Derived.JoinedTies
import Derived.KernelRfl
namespace Go.Proofs.Ymwhan
/- THE CELL 'sum', in the pinned program and in every row, IS THE sha256 OF THE DUMP (.gsa) THAT YmwhanProg.lean LOADS. Nothing in Lean hashes anything: it is a label: what it is worth is what the hold of that sum in a sandbox is worth. -/
noncomputable def Yanv.pinned : Pinned := { name := "ymwhan", sum := "1dc65ef1ebbeb87e2a92e95bdaabbd874878348e09ccac79e9a2897d3b7f6587", checked := Yanv.checked }
namespace Rows
def none {H : Type} : Left H := { results := [], args := [] }

/-- 'tlv.LawS930003QAAWhole': WHATEVER THE INPUT: true; the input reads as it did. -/
def lawS930003QAAWholeSpec : ChangeSpec := { name := "lawS930003QAAWhole", fn := fun _ => fun
  | [d1, d2] => { results := [.lit (.bool true)], args := [d1, d2] }
  | _ => none }
def lawS930003QAAWholeRow : OpenClaim := { program := "ymwhan", sum := "1dc65ef1ebbeb87e2a92e95bdaabbd874878348e09ccac79e9a2897d3b7f6587", func := "example.com/own/tlv.LawS930003QAAWhole", spec := "lawS930003QAAWhole", apart := false }
def LawS930003QAAWholeSaid : Prop := lawS930003QAAWholeRow.holds Yanv.pinned (OpenSpec.ofChange lawS930003QAAWholeSpec)

/-- ITS FALSE NEIGHBOUR: 'it returns false'. Refute it at one input. -/
def lawS930003QAAWholeWrong : ChangeSpec := { name := "lawS930003QAAWhole", fn := fun _ => fun
  | [d1, d2] => { results := [.lit (.bool false)], args := [d1, d2] }
  | _ => none }
def LawS930003QAAWholeWrongFalsely : Prop := lawS930003QAAWholeRow.holds Yanv.pinned (OpenSpec.ofChange lawS930003QAAWholeWrong)

/-- 'tlv.LawS930003QABWhole': WHATEVER THE INPUT: true; the input reads as it did. -/
def lawS930003QABWholeSpec : ChangeSpec := { name := "lawS930003QABWhole", fn := fun _ => fun
  | [d1, d2, d3, d4, d5] => { results := [.lit (.bool true)], args := [d1, d2, d3, d4, d5] }
  | _ => none }
def lawS930003QABWholeRow : OpenClaim := { program := "ymwhan", sum := "1dc65ef1ebbeb87e2a92e95bdaabbd874878348e09ccac79e9a2897d3b7f6587", func := "example.com/own/tlv.LawS930003QABWhole", spec := "lawS930003QABWhole", apart := false }
def LawS930003QABWholeSaid : Prop := lawS930003QABWholeRow.holds Yanv.pinned (OpenSpec.ofChange lawS930003QABWholeSpec)

/-- ITS FALSE NEIGHBOUR: 'it returns false'. Refute it at one input. -/
def lawS930003QABWholeWrong : ChangeSpec := { name := "lawS930003QABWhole", fn := fun _ => fun
  | [d1, d2, d3, d4, d5] => { results := [.lit (.bool false)], args := [d1, d2, d3, d4, d5] }
  | _ => none }
def LawS930003QABWholeWrongFalsely : Prop := lawS930003QABWholeRow.holds Yanv.pinned (OpenSpec.ofChange lawS930003QABWholeWrong)

end Rows
end Go.Proofs.Ymwhan
