/-
  No cell of these rows narrows 'for every input' (looked for: loops, veiled, ifaces, maps, wideKeys, modest, calm, conditions, laid).
  DERIVED. THE GIVEN ROWS OF THIS SEAT. 12 by the template 'for every input the law returns true; each argument reads behind the call as it read before'; 0 by the template 'total and deterministic' (their statements: YmbrdtTotals.lean).
  GIVEN WITH THE SEED: the statements are not yours to turn. If you find one false, say at which input.
  Laid BY PROGRAM, IN A SANDBOX (cutbox-rows.mjs): the forced cells as the released guide's own fill.sh prints them over the translation ec40d2b6c138fdc6… (all of the seat's roots in one cut). By AI agents, Wed Nov 11 2026. No macro, syntax, notation, axiom, sorry.
-/
import Derived.Test.YmbrdtChecked
import GoSem.Claim
import GoSem.ClaimJoined
import GoSem.ClaimMapViews
import Derived.JoinedTies
import Derived.KernelRfl
namespace Go.Proofs.Ymbrdt
/- THE CELL 'sum', in the pinned program and in every row, IS THE sha256 OF THE DUMP (.gsa) THAT YmbrdtProg.lean LOADS. Nothing in Lean hashes anything: it is a label: what it is worth is what the hold of that sum in a sandbox is worth. -/
noncomputable def Ydtm.pinned : Pinned := { name := "ymbrdt", sum := "ec40d2b6c138fdc656b312d2c820094aa1491c0bb8848190f94c3685f8b27afc", checked := Ydtm.checked }
namespace Rows
def none {H : Type} : Left H := { results := [], args := [] }

/-- 'bigdec.LawS930023EUndoesSum': WHATEVER THE INPUT: true; the input reads as it did. -/
def lawS930023EUndoesSumSpec : ChangeSpec := { name := "lawS930023EUndoesSum", fn := fun _ => fun
  | [d1, d2] => { results := [.lit (.bool true)], args := [d1, d2] }
  | _ => none }
def lawS930023EUndoesSumRow : OpenClaim := { program := "ymbrdt", sum := "ec40d2b6c138fdc656b312d2c820094aa1491c0bb8848190f94c3685f8b27afc", func := "example.com/own/bigdec.LawS930023EUndoesSum", spec := "lawS930023EUndoesSum", apart := false }
def LawS930023EUndoesSumSaid : Prop := lawS930023EUndoesSumRow.holds Ydtm.pinned (OpenSpec.ofChange lawS930023EUndoesSumSpec)

/-- ITS FALSE NEIGHBOUR: 'it returns false'. Refute it at one input. -/
def lawS930023EUndoesSumWrong : ChangeSpec := { name := "lawS930023EUndoesSum", fn := fun _ => fun
  | [d1, d2] => { results := [.lit (.bool false)], args := [d1, d2] }
  | _ => none }
def LawS930023EUndoesSumWrongFalsely : Prop := lawS930023EUndoesSumRow.holds Ydtm.pinned (OpenSpec.ofChange lawS930023EUndoesSumWrong)

/-- 'bigdec.LawS930023EUint': WHATEVER THE INPUT: true; the input reads as it did. -/
def lawS930023EUintSpec : ChangeSpec := { name := "lawS930023EUint", fn := fun _ => fun
  | [d1, d2] => { results := [.lit (.bool true)], args := [d1, d2] }
  | _ => none }
def lawS930023EUintRow : OpenClaim := { program := "ymbrdt", sum := "ec40d2b6c138fdc656b312d2c820094aa1491c0bb8848190f94c3685f8b27afc", func := "example.com/own/bigdec.LawS930023EUint", spec := "lawS930023EUint", apart := false }
def LawS930023EUintSaid : Prop := lawS930023EUintRow.holds Ydtm.pinned (OpenSpec.ofChange lawS930023EUintSpec)

/-- ITS FALSE NEIGHBOUR: 'it returns false'. Refute it at one input. -/
def lawS930023EUintWrong : ChangeSpec := { name := "lawS930023EUint", fn := fun _ => fun
  | [d1, d2] => { results := [.lit (.bool false)], args := [d1, d2] }
  | _ => none }
def LawS930023EUintWrongFalsely : Prop := lawS930023EUintRow.holds Ydtm.pinned (OpenSpec.ofChange lawS930023EUintWrong)

/-- 'bigdec.LawS930023FDigits': WHATEVER THE INPUT: true; the input reads as it did. -/
def lawS930023FDigitsSpec : ChangeSpec := { name := "lawS930023FDigits", fn := fun _ => fun
  | [d] => { results := [.lit (.bool true)], args := [d] }
  | _ => none }
def lawS930023FDigitsRow : OpenClaim := { program := "ymbrdt", sum := "ec40d2b6c138fdc656b312d2c820094aa1491c0bb8848190f94c3685f8b27afc", func := "example.com/own/bigdec.LawS930023FDigits", spec := "lawS930023FDigits", apart := false }
def LawS930023FDigitsSaid : Prop := lawS930023FDigitsRow.holds Ydtm.pinned (OpenSpec.ofChange lawS930023FDigitsSpec)

/-- ITS FALSE NEIGHBOUR: 'it returns false'. Refute it at one input. -/
def lawS930023FDigitsWrong : ChangeSpec := { name := "lawS930023FDigits", fn := fun _ => fun
  | [d] => { results := [.lit (.bool false)], args := [d] }
  | _ => none }
def LawS930023FDigitsWrongFalsely : Prop := lawS930023FDigitsRow.holds Ydtm.pinned (OpenSpec.ofChange lawS930023FDigitsWrong)

/-- 'bigdec.LawS930023FBuilt': WHATEVER THE INPUT: true; the input reads as it did. -/
def lawS930023FBuiltSpec : ChangeSpec := { name := "lawS930023FBuilt", fn := fun _ => fun
  | [d] => { results := [.lit (.bool true)], args := [d] }
  | _ => none }
def lawS930023FBuiltRow : OpenClaim := { program := "ymbrdt", sum := "ec40d2b6c138fdc656b312d2c820094aa1491c0bb8848190f94c3685f8b27afc", func := "example.com/own/bigdec.LawS930023FBuilt", spec := "lawS930023FBuilt", apart := false }
def LawS930023FBuiltSaid : Prop := lawS930023FBuiltRow.holds Ydtm.pinned (OpenSpec.ofChange lawS930023FBuiltSpec)

/-- ITS FALSE NEIGHBOUR: 'it returns false'. Refute it at one input. -/
def lawS930023FBuiltWrong : ChangeSpec := { name := "lawS930023FBuilt", fn := fun _ => fun
  | [d] => { results := [.lit (.bool false)], args := [d] }
  | _ => none }
def LawS930023FBuiltWrongFalsely : Prop := lawS930023FBuiltRow.holds Ydtm.pinned (OpenSpec.ofChange lawS930023FBuiltWrong)

/-- 'bigdec.LawS930023FOrder': WHATEVER THE INPUT: true; the input reads as it did. -/
def lawS930023FOrderSpec : ChangeSpec := { name := "lawS930023FOrder", fn := fun _ => fun
  | [d1, d2] => { results := [.lit (.bool true)], args := [d1, d2] }
  | _ => none }
def lawS930023FOrderRow : OpenClaim := { program := "ymbrdt", sum := "ec40d2b6c138fdc656b312d2c820094aa1491c0bb8848190f94c3685f8b27afc", func := "example.com/own/bigdec.LawS930023FOrder", spec := "lawS930023FOrder", apart := false }
def LawS930023FOrderSaid : Prop := lawS930023FOrderRow.holds Ydtm.pinned (OpenSpec.ofChange lawS930023FOrderSpec)

/-- ITS FALSE NEIGHBOUR: 'it returns false'. Refute it at one input. -/
def lawS930023FOrderWrong : ChangeSpec := { name := "lawS930023FOrder", fn := fun _ => fun
  | [d1, d2] => { results := [.lit (.bool false)], args := [d1, d2] }
  | _ => none }
def LawS930023FOrderWrongFalsely : Prop := lawS930023FOrderRow.holds Ydtm.pinned (OpenSpec.ofChange lawS930023FOrderWrong)

/-- 'bigdec.LawS930023GExact': WHATEVER THE INPUT: true; the input reads as it did. -/
def lawS930023GExactSpec : ChangeSpec := { name := "lawS930023GExact", fn := fun _ => fun
  | [d] => { results := [.lit (.bool true)], args := [d] }
  | _ => none }
def lawS930023GExactRow : OpenClaim := { program := "ymbrdt", sum := "ec40d2b6c138fdc656b312d2c820094aa1491c0bb8848190f94c3685f8b27afc", func := "example.com/own/bigdec.LawS930023GExact", spec := "lawS930023GExact", apart := false }
def LawS930023GExactSaid : Prop := lawS930023GExactRow.holds Ydtm.pinned (OpenSpec.ofChange lawS930023GExactSpec)

/-- ITS FALSE NEIGHBOUR: 'it returns false'. Refute it at one input. -/
def lawS930023GExactWrong : ChangeSpec := { name := "lawS930023GExact", fn := fun _ => fun
  | [d] => { results := [.lit (.bool false)], args := [d] }
  | _ => none }
def LawS930023GExactWrongFalsely : Prop := lawS930023GExactRow.holds Ydtm.pinned (OpenSpec.ofChange lawS930023GExactWrong)

/-- 'bigdec.LawS930023GTrim': WHATEVER THE INPUT: true; the input reads as it did. -/
def lawS930023GTrimSpec : ChangeSpec := { name := "lawS930023GTrim", fn := fun _ => fun
  | [d] => { results := [.lit (.bool true)], args := [d] }
  | _ => none }
def lawS930023GTrimRow : OpenClaim := { program := "ymbrdt", sum := "ec40d2b6c138fdc656b312d2c820094aa1491c0bb8848190f94c3685f8b27afc", func := "example.com/own/bigdec.LawS930023GTrim", spec := "lawS930023GTrim", apart := false }
def LawS930023GTrimSaid : Prop := lawS930023GTrimRow.holds Ydtm.pinned (OpenSpec.ofChange lawS930023GTrimSpec)

/-- ITS FALSE NEIGHBOUR: 'it returns false'. Refute it at one input. -/
def lawS930023GTrimWrong : ChangeSpec := { name := "lawS930023GTrim", fn := fun _ => fun
  | [d] => { results := [.lit (.bool false)], args := [d] }
  | _ => none }
def LawS930023GTrimWrongFalsely : Prop := lawS930023GTrimRow.holds Ydtm.pinned (OpenSpec.ofChange lawS930023GTrimWrong)

/-- 'bigdec.LawS930023GReplace': WHATEVER THE INPUT: true; the input reads as it did. -/
def lawS930023GReplaceSpec : ChangeSpec := { name := "lawS930023GReplace", fn := fun _ => fun
  | [d1, d2, d3] => { results := [.lit (.bool true)], args := [d1, d2, d3] }
  | _ => none }
def lawS930023GReplaceRow : OpenClaim := { program := "ymbrdt", sum := "ec40d2b6c138fdc656b312d2c820094aa1491c0bb8848190f94c3685f8b27afc", func := "example.com/own/bigdec.LawS930023GReplace", spec := "lawS930023GReplace", apart := false }
def LawS930023GReplaceSaid : Prop := lawS930023GReplaceRow.holds Ydtm.pinned (OpenSpec.ofChange lawS930023GReplaceSpec)

/-- ITS FALSE NEIGHBOUR: 'it returns false'. Refute it at one input. -/
def lawS930023GReplaceWrong : ChangeSpec := { name := "lawS930023GReplace", fn := fun _ => fun
  | [d1, d2, d3] => { results := [.lit (.bool false)], args := [d1, d2, d3] }
  | _ => none }
def LawS930023GReplaceWrongFalsely : Prop := lawS930023GReplaceRow.holds Ydtm.pinned (OpenSpec.ofChange lawS930023GReplaceWrong)

/-- 'bigdec.LawS930023HValue': WHATEVER THE INPUT: true; the input reads as it did. -/
def lawS930023HValueSpec : ChangeSpec := { name := "lawS930023HValue", fn := fun _ => fun
  | [d1, d2] => { results := [.lit (.bool true)], args := [d1, d2] }
  | _ => none }
def lawS930023HValueRow : OpenClaim := { program := "ymbrdt", sum := "ec40d2b6c138fdc656b312d2c820094aa1491c0bb8848190f94c3685f8b27afc", func := "example.com/own/bigdec.LawS930023HValue", spec := "lawS930023HValue", apart := false }
def LawS930023HValueSaid : Prop := lawS930023HValueRow.holds Ydtm.pinned (OpenSpec.ofChange lawS930023HValueSpec)

/-- ITS FALSE NEIGHBOUR: 'it returns false'. Refute it at one input. -/
def lawS930023HValueWrong : ChangeSpec := { name := "lawS930023HValue", fn := fun _ => fun
  | [d1, d2] => { results := [.lit (.bool false)], args := [d1, d2] }
  | _ => none }
def LawS930023HValueWrongFalsely : Prop := lawS930023HValueRow.holds Ydtm.pinned (OpenSpec.ofChange lawS930023HValueWrong)

/-- 'bigdec.LawS930023HMachine': WHATEVER THE INPUT: true; the input reads as it did. -/
def lawS930023HMachineSpec : ChangeSpec := { name := "lawS930023HMachine", fn := fun _ => fun
  | [d1, d2] => { results := [.lit (.bool true)], args := [d1, d2] }
  | _ => none }
def lawS930023HMachineRow : OpenClaim := { program := "ymbrdt", sum := "ec40d2b6c138fdc656b312d2c820094aa1491c0bb8848190f94c3685f8b27afc", func := "example.com/own/bigdec.LawS930023HMachine", spec := "lawS930023HMachine", apart := false }
def LawS930023HMachineSaid : Prop := lawS930023HMachineRow.holds Ydtm.pinned (OpenSpec.ofChange lawS930023HMachineSpec)

/-- ITS FALSE NEIGHBOUR: 'it returns false'. Refute it at one input. -/
def lawS930023HMachineWrong : ChangeSpec := { name := "lawS930023HMachine", fn := fun _ => fun
  | [d1, d2] => { results := [.lit (.bool false)], args := [d1, d2] }
  | _ => none }
def LawS930023HMachineWrongFalsely : Prop := lawS930023HMachineRow.holds Ydtm.pinned (OpenSpec.ofChange lawS930023HMachineWrong)

/-- 'bigdec.LawS930023HFresh': WHATEVER THE INPUT: true; the input reads as it did. -/
def lawS930023HFreshSpec : ChangeSpec := { name := "lawS930023HFresh", fn := fun _ => fun
  | [d1, d2] => { results := [.lit (.bool true)], args := [d1, d2] }
  | _ => none }
def lawS930023HFreshRow : OpenClaim := { program := "ymbrdt", sum := "ec40d2b6c138fdc656b312d2c820094aa1491c0bb8848190f94c3685f8b27afc", func := "example.com/own/bigdec.LawS930023HFresh", spec := "lawS930023HFresh", apart := false }
def LawS930023HFreshSaid : Prop := lawS930023HFreshRow.holds Ydtm.pinned (OpenSpec.ofChange lawS930023HFreshSpec)

/-- ITS FALSE NEIGHBOUR: 'it returns false'. Refute it at one input. -/
def lawS930023HFreshWrong : ChangeSpec := { name := "lawS930023HFresh", fn := fun _ => fun
  | [d1, d2] => { results := [.lit (.bool false)], args := [d1, d2] }
  | _ => none }
def LawS930023HFreshWrongFalsely : Prop := lawS930023HFreshRow.holds Ydtm.pinned (OpenSpec.ofChange lawS930023HFreshWrong)

/-- 'bigdec.LawS930023IMachine': WHATEVER THE INPUT: true; the input reads as it did. -/
def lawS930023IMachineSpec : ChangeSpec := { name := "lawS930023IMachine", fn := fun _ => fun
  | [d1, d2] => { results := [.lit (.bool true)], args := [d1, d2] }
  | _ => none }
def lawS930023IMachineRow : OpenClaim := { program := "ymbrdt", sum := "ec40d2b6c138fdc656b312d2c820094aa1491c0bb8848190f94c3685f8b27afc", func := "example.com/own/bigdec.LawS930023IMachine", spec := "lawS930023IMachine", apart := false }
def LawS930023IMachineSaid : Prop := lawS930023IMachineRow.holds Ydtm.pinned (OpenSpec.ofChange lawS930023IMachineSpec)

/-- ITS FALSE NEIGHBOUR: 'it returns false'. Refute it at one input. -/
def lawS930023IMachineWrong : ChangeSpec := { name := "lawS930023IMachine", fn := fun _ => fun
  | [d1, d2] => { results := [.lit (.bool false)], args := [d1, d2] }
  | _ => none }
def LawS930023IMachineWrongFalsely : Prop := lawS930023IMachineRow.holds Ydtm.pinned (OpenSpec.ofChange lawS930023IMachineWrong)

end Rows
end Go.Proofs.Ymbrdt
