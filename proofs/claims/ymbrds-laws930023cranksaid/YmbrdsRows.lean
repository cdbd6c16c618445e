/-
  No cell of these rows narrows 'for every input' (looked for: loops, veiled, ifaces, maps, wideKeys, modest, calm, conditions, laid).
  DERIVED. THE GIVEN ROWS OF THIS SEAT. 12 by the template 'for every input the law returns true; each argument reads behind the call as it read before'; 0 by the template 'total and deterministic' (their statements: YmbrdsTotals.lean).
  GIVEN WITH THE SEED: the statements are not yours to turn. If you find one false, say at which input.
  Laid BY PROGRAM, IN A SANDBOX (cutbox-rows.mjs): the forced cells as the released guide's own fill.sh prints them over the translation b573990d97ad3992… (all of the seat's roots in one cut). By AI agents, Wed Nov 11 2026. No macro, syntax, notation, axiom, sorry.
-/
import Derived.Test.YmbrdsChecked
import GoSem.Claim
import GoSem.ClaimJoined
import GoSem.ClaimMapViews
import Derived.JoinedTies
import Derived.KernelRfl
namespace Go.Proofs.Ymbrds
/- THE CELL 'sum', in the pinned program and in every row, IS THE sha256 OF THE DUMP (.gsa) THAT YmbrdsProg.lean LOADS. Nothing in Lean hashes anything: it is a label: what it is worth is what the hold of that sum in a sandbox is worth. -/
noncomputable def Ydsm.pinned : Pinned := { name := "ymbrds", sum := "b573990d97ad399227137f98a6c593749e706ac54216f73631f3864ba51f91d1", checked := Ydsm.checked }
namespace Rows
def none {H : Type} : Left H := { results := [], args := [] }

/-- 'bigdec.LawS930023AValue': WHATEVER THE INPUT: true; the input reads as it did. -/
def lawS930023AValueSpec : ChangeSpec := { name := "lawS930023AValue", fn := fun _ => fun
  | [d1, d2, d3] => { results := [.lit (.bool true)], args := [d1, d2, d3] }
  | _ => none }
def lawS930023AValueRow : OpenClaim := { program := "ymbrds", sum := "b573990d97ad399227137f98a6c593749e706ac54216f73631f3864ba51f91d1", func := "example.com/own/bigdec.LawS930023AValue", spec := "lawS930023AValue", apart := false }
def LawS930023AValueSaid : Prop := lawS930023AValueRow.holds Ydsm.pinned (OpenSpec.ofChange lawS930023AValueSpec)

/-- ITS FALSE NEIGHBOUR: 'it returns false'. Refute it at one input. -/
def lawS930023AValueWrong : ChangeSpec := { name := "lawS930023AValue", fn := fun _ => fun
  | [d1, d2, d3] => { results := [.lit (.bool false)], args := [d1, d2, d3] }
  | _ => none }
def LawS930023AValueWrongFalsely : Prop := lawS930023AValueRow.holds Ydsm.pinned (OpenSpec.ofChange lawS930023AValueWrong)

/-- 'bigdec.LawS930023AUint': WHATEVER THE INPUT: true; the input reads as it did. -/
def lawS930023AUintSpec : ChangeSpec := { name := "lawS930023AUint", fn := fun _ => fun
  | [d1, d2] => { results := [.lit (.bool true)], args := [d1, d2] }
  | _ => none }
def lawS930023AUintRow : OpenClaim := { program := "ymbrds", sum := "b573990d97ad399227137f98a6c593749e706ac54216f73631f3864ba51f91d1", func := "example.com/own/bigdec.LawS930023AUint", spec := "lawS930023AUint", apart := false }
def LawS930023AUintSaid : Prop := lawS930023AUintRow.holds Ydsm.pinned (OpenSpec.ofChange lawS930023AUintSpec)

/-- ITS FALSE NEIGHBOUR: 'it returns false'. Refute it at one input. -/
def lawS930023AUintWrong : ChangeSpec := { name := "lawS930023AUint", fn := fun _ => fun
  | [d1, d2] => { results := [.lit (.bool false)], args := [d1, d2] }
  | _ => none }
def LawS930023AUintWrongFalsely : Prop := lawS930023AUintRow.holds Ydsm.pinned (OpenSpec.ofChange lawS930023AUintWrong)

/-- 'bigdec.LawS930023AOrder': WHATEVER THE INPUT: true; the input reads as it did. -/
def lawS930023AOrderSpec : ChangeSpec := { name := "lawS930023AOrder", fn := fun _ => fun
  | [d1, d2, d3] => { results := [.lit (.bool true)], args := [d1, d2, d3] }
  | _ => none }
def lawS930023AOrderRow : OpenClaim := { program := "ymbrds", sum := "b573990d97ad399227137f98a6c593749e706ac54216f73631f3864ba51f91d1", func := "example.com/own/bigdec.LawS930023AOrder", spec := "lawS930023AOrder", apart := false }
def LawS930023AOrderSaid : Prop := lawS930023AOrderRow.holds Ydsm.pinned (OpenSpec.ofChange lawS930023AOrderSpec)

/-- ITS FALSE NEIGHBOUR: 'it returns false'. Refute it at one input. -/
def lawS930023AOrderWrong : ChangeSpec := { name := "lawS930023AOrder", fn := fun _ => fun
  | [d1, d2, d3] => { results := [.lit (.bool false)], args := [d1, d2, d3] }
  | _ => none }
def LawS930023AOrderWrongFalsely : Prop := lawS930023AOrderRow.holds Ydsm.pinned (OpenSpec.ofChange lawS930023AOrderWrong)

/-- 'bigdec.LawS930023BNumeral': WHATEVER THE INPUT: true; the input reads as it did. -/
def lawS930023BNumeralSpec : ChangeSpec := { name := "lawS930023BNumeral", fn := fun _ => fun
  | [d] => { results := [.lit (.bool true)], args := [d] }
  | _ => none }
def lawS930023BNumeralRow : OpenClaim := { program := "ymbrds", sum := "b573990d97ad399227137f98a6c593749e706ac54216f73631f3864ba51f91d1", func := "example.com/own/bigdec.LawS930023BNumeral", spec := "lawS930023BNumeral", apart := false }
def LawS930023BNumeralSaid : Prop := lawS930023BNumeralRow.holds Ydsm.pinned (OpenSpec.ofChange lawS930023BNumeralSpec)

/-- ITS FALSE NEIGHBOUR: 'it returns false'. Refute it at one input. -/
def lawS930023BNumeralWrong : ChangeSpec := { name := "lawS930023BNumeral", fn := fun _ => fun
  | [d] => { results := [.lit (.bool false)], args := [d] }
  | _ => none }
def LawS930023BNumeralWrongFalsely : Prop := lawS930023BNumeralRow.holds Ydsm.pinned (OpenSpec.ofChange lawS930023BNumeralWrong)

/-- 'bigdec.LawS930023BUint64': WHATEVER THE INPUT: true; the input reads as it did. -/
def lawS930023BUint64Spec : ChangeSpec := { name := "lawS930023BUint64", fn := fun _ => fun
  | [d] => { results := [.lit (.bool true)], args := [d] }
  | _ => none }
def lawS930023BUint64Row : OpenClaim := { program := "ymbrds", sum := "b573990d97ad399227137f98a6c593749e706ac54216f73631f3864ba51f91d1", func := "example.com/own/bigdec.LawS930023BUint64", spec := "lawS930023BUint64", apart := false }
def LawS930023BUint64Said : Prop := lawS930023BUint64Row.holds Ydsm.pinned (OpenSpec.ofChange lawS930023BUint64Spec)

/-- ITS FALSE NEIGHBOUR: 'it returns false'. Refute it at one input. -/
def lawS930023BUint64Wrong : ChangeSpec := { name := "lawS930023BUint64", fn := fun _ => fun
  | [d] => { results := [.lit (.bool false)], args := [d] }
  | _ => none }
def LawS930023BUint64WrongFalsely : Prop := lawS930023BUint64Row.holds Ydsm.pinned (OpenSpec.ofChange lawS930023BUint64Wrong)

/-- 'bigdec.LawS930023BAnyBytes': WHATEVER THE INPUT: true; the input reads as it did. -/
def lawS930023BAnyBytesSpec : ChangeSpec := { name := "lawS930023BAnyBytes", fn := fun _ => fun
  | [d] => { results := [.lit (.bool true)], args := [d] }
  | _ => none }
def lawS930023BAnyBytesRow : OpenClaim := { program := "ymbrds", sum := "b573990d97ad399227137f98a6c593749e706ac54216f73631f3864ba51f91d1", func := "example.com/own/bigdec.LawS930023BAnyBytes", spec := "lawS930023BAnyBytes", apart := false }
def LawS930023BAnyBytesSaid : Prop := lawS930023BAnyBytesRow.holds Ydsm.pinned (OpenSpec.ofChange lawS930023BAnyBytesSpec)

/-- ITS FALSE NEIGHBOUR: 'it returns false'. Refute it at one input. -/
def lawS930023BAnyBytesWrong : ChangeSpec := { name := "lawS930023BAnyBytes", fn := fun _ => fun
  | [d] => { results := [.lit (.bool false)], args := [d] }
  | _ => none }
def LawS930023BAnyBytesWrongFalsely : Prop := lawS930023BAnyBytesRow.holds Ydsm.pinned (OpenSpec.ofChange lawS930023BAnyBytesWrong)

/-- 'bigdec.LawS930023CRank': WHATEVER THE INPUT: true; the input reads as it did. -/
def lawS930023CRankSpec : ChangeSpec := { name := "lawS930023CRank", fn := fun _ => fun
  | [d] => { results := [.lit (.bool true)], args := [d] }
  | _ => none }
def lawS930023CRankRow : OpenClaim := { program := "ymbrds", sum := "b573990d97ad399227137f98a6c593749e706ac54216f73631f3864ba51f91d1", func := "example.com/own/bigdec.LawS930023CRank", spec := "lawS930023CRank", apart := false }
def LawS930023CRankSaid : Prop := lawS930023CRankRow.holds Ydsm.pinned (OpenSpec.ofChange lawS930023CRankSpec)

/-- ITS FALSE NEIGHBOUR: 'it returns false'. Refute it at one input. -/
def lawS930023CRankWrong : ChangeSpec := { name := "lawS930023CRank", fn := fun _ => fun
  | [d] => { results := [.lit (.bool false)], args := [d] }
  | _ => none }
def LawS930023CRankWrongFalsely : Prop := lawS930023CRankRow.holds Ydsm.pinned (OpenSpec.ofChange lawS930023CRankWrong)

/-- 'bigdec.LawS930023CNumbers': WHATEVER THE INPUT: true; the input reads as it did. -/
def lawS930023CNumbersSpec : ChangeSpec := { name := "lawS930023CNumbers", fn := fun _ => fun
  | [d] => { results := [.lit (.bool true)], args := [d] }
  | _ => none }
def lawS930023CNumbersRow : OpenClaim := { program := "ymbrds", sum := "b573990d97ad399227137f98a6c593749e706ac54216f73631f3864ba51f91d1", func := "example.com/own/bigdec.LawS930023CNumbers", spec := "lawS930023CNumbers", apart := false }
def LawS930023CNumbersSaid : Prop := lawS930023CNumbersRow.holds Ydsm.pinned (OpenSpec.ofChange lawS930023CNumbersSpec)

/-- ITS FALSE NEIGHBOUR: 'it returns false'. Refute it at one input. -/
def lawS930023CNumbersWrong : ChangeSpec := { name := "lawS930023CNumbers", fn := fun _ => fun
  | [d] => { results := [.lit (.bool false)], args := [d] }
  | _ => none }
def LawS930023CNumbersWrongFalsely : Prop := lawS930023CNumbersRow.holds Ydsm.pinned (OpenSpec.ofChange lawS930023CNumbersWrong)

/-- 'bigdec.LawS930023DSum': WHATEVER THE INPUT: true; the input reads as it did. -/
def lawS930023DSumSpec : ChangeSpec := { name := "lawS930023DSum", fn := fun _ => fun
  | [d] => { results := [.lit (.bool true)], args := [d] }
  | _ => none }
def lawS930023DSumRow : OpenClaim := { program := "ymbrds", sum := "b573990d97ad399227137f98a6c593749e706ac54216f73631f3864ba51f91d1", func := "example.com/own/bigdec.LawS930023DSum", spec := "lawS930023DSum", apart := false }
def LawS930023DSumSaid : Prop := lawS930023DSumRow.holds Ydsm.pinned (OpenSpec.ofChange lawS930023DSumSpec)

/-- ITS FALSE NEIGHBOUR: 'it returns false'. Refute it at one input. -/
def lawS930023DSumWrong : ChangeSpec := { name := "lawS930023DSum", fn := fun _ => fun
  | [d] => { results := [.lit (.bool false)], args := [d] }
  | _ => none }
def LawS930023DSumWrongFalsely : Prop := lawS930023DSumRow.holds Ydsm.pinned (OpenSpec.ofChange lawS930023DSumWrong)

/-- 'bigdec.LawS930023DLimit': WHATEVER THE INPUT: true; the input reads as it did. -/
def lawS930023DLimitSpec : ChangeSpec := { name := "lawS930023DLimit", fn := fun _ => fun
  | [d1, d2, d3, d4] => { results := [.lit (.bool true)], args := [d1, d2, d3, d4] }
  | _ => none }
def lawS930023DLimitRow : OpenClaim := { program := "ymbrds", sum := "b573990d97ad399227137f98a6c593749e706ac54216f73631f3864ba51f91d1", func := "example.com/own/bigdec.LawS930023DLimit", spec := "lawS930023DLimit", apart := false }
def LawS930023DLimitSaid : Prop := lawS930023DLimitRow.holds Ydsm.pinned (OpenSpec.ofChange lawS930023DLimitSpec)

/-- ITS FALSE NEIGHBOUR: 'it returns false'. Refute it at one input. -/
def lawS930023DLimitWrong : ChangeSpec := { name := "lawS930023DLimit", fn := fun _ => fun
  | [d1, d2, d3, d4] => { results := [.lit (.bool false)], args := [d1, d2, d3, d4] }
  | _ => none }
def LawS930023DLimitWrongFalsely : Prop := lawS930023DLimitRow.holds Ydsm.pinned (OpenSpec.ofChange lawS930023DLimitWrong)

/-- 'bigdec.LawS930023DRound': WHATEVER THE INPUT: true; the input reads as it did. -/
def lawS930023DRoundSpec : ChangeSpec := { name := "lawS930023DRound", fn := fun _ => fun
  | [d] => { results := [.lit (.bool true)], args := [d] }
  | _ => none }
def lawS930023DRoundRow : OpenClaim := { program := "ymbrds", sum := "b573990d97ad399227137f98a6c593749e706ac54216f73631f3864ba51f91d1", func := "example.com/own/bigdec.LawS930023DRound", spec := "lawS930023DRound", apart := false }
def LawS930023DRoundSaid : Prop := lawS930023DRoundRow.holds Ydsm.pinned (OpenSpec.ofChange lawS930023DRoundSpec)

/-- ITS FALSE NEIGHBOUR: 'it returns false'. Refute it at one input. -/
def lawS930023DRoundWrong : ChangeSpec := { name := "lawS930023DRound", fn := fun _ => fun
  | [d] => { results := [.lit (.bool false)], args := [d] }
  | _ => none }
def LawS930023DRoundWrongFalsely : Prop := lawS930023DRoundRow.holds Ydsm.pinned (OpenSpec.ofChange lawS930023DRoundWrong)

/-- 'bigdec.LawS930023EDifference': WHATEVER THE INPUT: true; the input reads as it did. -/
def lawS930023EDifferenceSpec : ChangeSpec := { name := "lawS930023EDifference", fn := fun _ => fun
  | [d1, d2] => { results := [.lit (.bool true)], args := [d1, d2] }
  | _ => none }
def lawS930023EDifferenceRow : OpenClaim := { program := "ymbrds", sum := "b573990d97ad399227137f98a6c593749e706ac54216f73631f3864ba51f91d1", func := "example.com/own/bigdec.LawS930023EDifference", spec := "lawS930023EDifference", apart := false }
def LawS930023EDifferenceSaid : Prop := lawS930023EDifferenceRow.holds Ydsm.pinned (OpenSpec.ofChange lawS930023EDifferenceSpec)

/-- ITS FALSE NEIGHBOUR: 'it returns false'. Refute it at one input. -/
def lawS930023EDifferenceWrong : ChangeSpec := { name := "lawS930023EDifference", fn := fun _ => fun
  | [d1, d2] => { results := [.lit (.bool false)], args := [d1, d2] }
  | _ => none }
def LawS930023EDifferenceWrongFalsely : Prop := lawS930023EDifferenceRow.holds Ydsm.pinned (OpenSpec.ofChange lawS930023EDifferenceWrong)

end Rows
end Go.Proofs.Ymbrds
