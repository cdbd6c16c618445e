/-
  No cell of these rows narrows 'for every input' (looked for: loops, veiled, ifaces, maps, wideKeys, modest, calm, conditions, laid).
  DERIVED. THE GIVEN ROWS OF THIS SEAT. 11 by the template 'for every input the law returns true; each argument reads behind the call as it read before'; 0 by the template 'total and deterministic' (their statements: YmbrduTotals.lean).
  GIVEN WITH THE SEED: the statements are not yours to turn. If you find one false, say at which input.
  Laid BY PROGRAM, IN A SANDBOX (cutbox-rows.mjs): the forced cells as the released guide's own fill.sh prints them over the translation 5d0e78990b6d4dc7… (all of the seat's roots in one cut). By AI agents, Wed Nov 11 2026. No macro, syntax, notation, axiom, sorry.
-/
import Derived.Test.YmbrduChecked
import GoSem.Claim
import GoSem.ClaimJoined
import GoSem.ClaimMapViews
import Derived.JoinedTies
import Derived.KernelRfl
namespace Go.Proofs.Ymbrdu
/- THE CELL 'sum', in the pinned program and in every row, IS THE sha256 OF THE DUMP (.gsa) THAT YmbrduProg.lean LOADS. Nothing in Lean hashes anything: it is a label: what it is worth is what the hold of that sum in a sandbox is worth. -/
noncomputable def Ydum.pinned : Pinned := { name := "ymbrdu", sum := "5d0e78990b6d4dc7456a67eb0a78bba5552534b00fe90367b37dff4fe423030c", checked := Ydum.checked }
namespace Rows
def none {H : Type} : Left H := { results := [], args := [] }

/-- 'bigdec.LawS930023IEuclid': WHATEVER THE INPUT: true; the input reads as it did. -/
def lawS930023IEuclidSpec : ChangeSpec := { name := "lawS930023IEuclid", fn := fun _ => fun
  | [d1, d2] => { results := [.lit (.bool true)], args := [d1, d2] }
  | _ => none }
def lawS930023IEuclidRow : OpenClaim := { program := "ymbrdu", sum := "5d0e78990b6d4dc7456a67eb0a78bba5552534b00fe90367b37dff4fe423030c", func := "example.com/own/bigdec.LawS930023IEuclid", spec := "lawS930023IEuclid", apart := false }
def LawS930023IEuclidSaid : Prop := lawS930023IEuclidRow.holds Ydum.pinned (OpenSpec.ofChange lawS930023IEuclidSpec)

/-- ITS FALSE NEIGHBOUR: 'it returns false'. Refute it at one input. -/
def lawS930023IEuclidWrong : ChangeSpec := { name := "lawS930023IEuclid", fn := fun _ => fun
  | [d1, d2] => { results := [.lit (.bool false)], args := [d1, d2] }
  | _ => none }
def LawS930023IEuclidWrongFalsely : Prop := lawS930023IEuclidRow.holds Ydum.pinned (OpenSpec.ofChange lawS930023IEuclidWrong)

/-- 'bigdec.LawS930023IGuard': WHATEVER THE INPUT: true; the input reads as it did. -/
def lawS930023IGuardSpec : ChangeSpec := { name := "lawS930023IGuard", fn := fun _ => fun
  | [d1, d2, d3] => { results := [.lit (.bool true)], args := [d1, d2, d3] }
  | _ => none }
def lawS930023IGuardRow : OpenClaim := { program := "ymbrdu", sum := "5d0e78990b6d4dc7456a67eb0a78bba5552534b00fe90367b37dff4fe423030c", func := "example.com/own/bigdec.LawS930023IGuard", spec := "lawS930023IGuard", apart := false }
def LawS930023IGuardSaid : Prop := lawS930023IGuardRow.holds Ydum.pinned (OpenSpec.ofChange lawS930023IGuardSpec)

/-- ITS FALSE NEIGHBOUR: 'it returns false'. Refute it at one input. -/
def lawS930023IGuardWrong : ChangeSpec := { name := "lawS930023IGuard", fn := fun _ => fun
  | [d1, d2, d3] => { results := [.lit (.bool false)], args := [d1, d2, d3] }
  | _ => none }
def LawS930023IGuardWrongFalsely : Prop := lawS930023IGuardRow.holds Ydum.pinned (OpenSpec.ofChange lawS930023IGuardWrong)

/-- 'bigdec.LawS930023JExact': WHATEVER THE INPUT: true; the input reads as it did. -/
def lawS930023JExactSpec : ChangeSpec := { name := "lawS930023JExact", fn := fun _ => fun
  | [d1, d2] => { results := [.lit (.bool true)], args := [d1, d2] }
  | _ => none }
def lawS930023JExactRow : OpenClaim := { program := "ymbrdu", sum := "5d0e78990b6d4dc7456a67eb0a78bba5552534b00fe90367b37dff4fe423030c", func := "example.com/own/bigdec.LawS930023JExact", spec := "lawS930023JExact", apart := false }
def LawS930023JExactSaid : Prop := lawS930023JExactRow.holds Ydum.pinned (OpenSpec.ofChange lawS930023JExactSpec)

/-- ITS FALSE NEIGHBOUR: 'it returns false'. Refute it at one input. -/
def lawS930023JExactWrong : ChangeSpec := { name := "lawS930023JExact", fn := fun _ => fun
  | [d1, d2] => { results := [.lit (.bool false)], args := [d1, d2] }
  | _ => none }
def LawS930023JExactWrongFalsely : Prop := lawS930023JExactRow.holds Ydum.pinned (OpenSpec.ofChange lawS930023JExactWrong)

/-- 'bigdec.LawS930023JValue': WHATEVER THE INPUT: true; the input reads as it did. -/
def lawS930023JValueSpec : ChangeSpec := { name := "lawS930023JValue", fn := fun _ => fun
  | [d1, d2] => { results := [.lit (.bool true)], args := [d1, d2] }
  | _ => none }
def lawS930023JValueRow : OpenClaim := { program := "ymbrdu", sum := "5d0e78990b6d4dc7456a67eb0a78bba5552534b00fe90367b37dff4fe423030c", func := "example.com/own/bigdec.LawS930023JValue", spec := "lawS930023JValue", apart := false }
def LawS930023JValueSaid : Prop := lawS930023JValueRow.holds Ydum.pinned (OpenSpec.ofChange lawS930023JValueSpec)

/-- ITS FALSE NEIGHBOUR: 'it returns false'. Refute it at one input. -/
def lawS930023JValueWrong : ChangeSpec := { name := "lawS930023JValue", fn := fun _ => fun
  | [d1, d2] => { results := [.lit (.bool false)], args := [d1, d2] }
  | _ => none }
def LawS930023JValueWrongFalsely : Prop := lawS930023JValueRow.holds Ydum.pinned (OpenSpec.ofChange lawS930023JValueWrong)

/-- 'bigdec.LawS930023JEdge': WHATEVER THE INPUT: true; the input reads as it did. -/
def lawS930023JEdgeSpec : ChangeSpec := { name := "lawS930023JEdge", fn := fun _ => fun
  | [d1, d2] => { results := [.lit (.bool true)], args := [d1, d2] }
  | _ => none }
def lawS930023JEdgeRow : OpenClaim := { program := "ymbrdu", sum := "5d0e78990b6d4dc7456a67eb0a78bba5552534b00fe90367b37dff4fe423030c", func := "example.com/own/bigdec.LawS930023JEdge", spec := "lawS930023JEdge", apart := false }
def LawS930023JEdgeSaid : Prop := lawS930023JEdgeRow.holds Ydum.pinned (OpenSpec.ofChange lawS930023JEdgeSpec)

/-- ITS FALSE NEIGHBOUR: 'it returns false'. Refute it at one input. -/
def lawS930023JEdgeWrong : ChangeSpec := { name := "lawS930023JEdge", fn := fun _ => fun
  | [d1, d2] => { results := [.lit (.bool false)], args := [d1, d2] }
  | _ => none }
def LawS930023JEdgeWrongFalsely : Prop := lawS930023JEdgeRow.holds Ydum.pinned (OpenSpec.ofChange lawS930023JEdgeWrong)

/-- 'bigdec.LawS930023KExact': WHATEVER THE INPUT: true; the input reads as it did. -/
def lawS930023KExactSpec : ChangeSpec := { name := "lawS930023KExact", fn := fun _ => fun
  | [d1, d2] => { results := [.lit (.bool true)], args := [d1, d2] }
  | _ => none }
def lawS930023KExactRow : OpenClaim := { program := "ymbrdu", sum := "5d0e78990b6d4dc7456a67eb0a78bba5552534b00fe90367b37dff4fe423030c", func := "example.com/own/bigdec.LawS930023KExact", spec := "lawS930023KExact", apart := false }
def LawS930023KExactSaid : Prop := lawS930023KExactRow.holds Ydum.pinned (OpenSpec.ofChange lawS930023KExactSpec)

/-- ITS FALSE NEIGHBOUR: 'it returns false'. Refute it at one input. -/
def lawS930023KExactWrong : ChangeSpec := { name := "lawS930023KExact", fn := fun _ => fun
  | [d1, d2] => { results := [.lit (.bool false)], args := [d1, d2] }
  | _ => none }
def LawS930023KExactWrongFalsely : Prop := lawS930023KExactRow.holds Ydum.pinned (OpenSpec.ofChange lawS930023KExactWrong)

/-- 'bigdec.LawS930023KValue': WHATEVER THE INPUT: true; the input reads as it did. -/
def lawS930023KValueSpec : ChangeSpec := { name := "lawS930023KValue", fn := fun _ => fun
  | [d1, d2] => { results := [.lit (.bool true)], args := [d1, d2] }
  | _ => none }
def lawS930023KValueRow : OpenClaim := { program := "ymbrdu", sum := "5d0e78990b6d4dc7456a67eb0a78bba5552534b00fe90367b37dff4fe423030c", func := "example.com/own/bigdec.LawS930023KValue", spec := "lawS930023KValue", apart := false }
def LawS930023KValueSaid : Prop := lawS930023KValueRow.holds Ydum.pinned (OpenSpec.ofChange lawS930023KValueSpec)

/-- ITS FALSE NEIGHBOUR: 'it returns false'. Refute it at one input. -/
def lawS930023KValueWrong : ChangeSpec := { name := "lawS930023KValue", fn := fun _ => fun
  | [d1, d2] => { results := [.lit (.bool false)], args := [d1, d2] }
  | _ => none }
def LawS930023KValueWrongFalsely : Prop := lawS930023KValueRow.holds Ydum.pinned (OpenSpec.ofChange lawS930023KValueWrong)

/-- 'bigdec.LawS930023KBadByte': WHATEVER THE INPUT: true; the input reads as it did. -/
def lawS930023KBadByteSpec : ChangeSpec := { name := "lawS930023KBadByte", fn := fun _ => fun
  | [d1, d2, d3] => { results := [.lit (.bool true)], args := [d1, d2, d3] }
  | _ => none }
def lawS930023KBadByteRow : OpenClaim := { program := "ymbrdu", sum := "5d0e78990b6d4dc7456a67eb0a78bba5552534b00fe90367b37dff4fe423030c", func := "example.com/own/bigdec.LawS930023KBadByte", spec := "lawS930023KBadByte", apart := false }
def LawS930023KBadByteSaid : Prop := lawS930023KBadByteRow.holds Ydum.pinned (OpenSpec.ofChange lawS930023KBadByteSpec)

/-- ITS FALSE NEIGHBOUR: 'it returns false'. Refute it at one input. -/
def lawS930023KBadByteWrong : ChangeSpec := { name := "lawS930023KBadByte", fn := fun _ => fun
  | [d1, d2, d3] => { results := [.lit (.bool false)], args := [d1, d2, d3] }
  | _ => none }
def LawS930023KBadByteWrongFalsely : Prop := lawS930023KBadByteRow.holds Ydum.pinned (OpenSpec.ofChange lawS930023KBadByteWrong)

/-- 'bigdec.LawS930023LExact': WHATEVER THE INPUT: true; the input reads as it did. -/
def lawS930023LExactSpec : ChangeSpec := { name := "lawS930023LExact", fn := fun _ => fun
  | [d1, d2] => { results := [.lit (.bool true)], args := [d1, d2] }
  | _ => none }
def lawS930023LExactRow : OpenClaim := { program := "ymbrdu", sum := "5d0e78990b6d4dc7456a67eb0a78bba5552534b00fe90367b37dff4fe423030c", func := "example.com/own/bigdec.LawS930023LExact", spec := "lawS930023LExact", apart := false }
def LawS930023LExactSaid : Prop := lawS930023LExactRow.holds Ydum.pinned (OpenSpec.ofChange lawS930023LExactSpec)

/-- ITS FALSE NEIGHBOUR: 'it returns false'. Refute it at one input. -/
def lawS930023LExactWrong : ChangeSpec := { name := "lawS930023LExact", fn := fun _ => fun
  | [d1, d2] => { results := [.lit (.bool false)], args := [d1, d2] }
  | _ => none }
def LawS930023LExactWrongFalsely : Prop := lawS930023LExactRow.holds Ydum.pinned (OpenSpec.ofChange lawS930023LExactWrong)

/-- 'bigdec.LawS930023LFresh': WHATEVER THE INPUT: true; the input reads as it did. -/
def lawS930023LFreshSpec : ChangeSpec := { name := "lawS930023LFresh", fn := fun _ => fun
  | [d1, d2] => { results := [.lit (.bool true)], args := [d1, d2] }
  | _ => none }
def lawS930023LFreshRow : OpenClaim := { program := "ymbrdu", sum := "5d0e78990b6d4dc7456a67eb0a78bba5552534b00fe90367b37dff4fe423030c", func := "example.com/own/bigdec.LawS930023LFresh", spec := "lawS930023LFresh", apart := false }
def LawS930023LFreshSaid : Prop := lawS930023LFreshRow.holds Ydum.pinned (OpenSpec.ofChange lawS930023LFreshSpec)

/-- ITS FALSE NEIGHBOUR: 'it returns false'. Refute it at one input. -/
def lawS930023LFreshWrong : ChangeSpec := { name := "lawS930023LFresh", fn := fun _ => fun
  | [d1, d2] => { results := [.lit (.bool false)], args := [d1, d2] }
  | _ => none }
def LawS930023LFreshWrongFalsely : Prop := lawS930023LFreshRow.holds Ydum.pinned (OpenSpec.ofChange lawS930023LFreshWrong)

/-- 'bigdec.LawS930023LCanonical': WHATEVER THE INPUT: true; the input reads as it did. -/
def lawS930023LCanonicalSpec : ChangeSpec := { name := "lawS930023LCanonical", fn := fun _ => fun
  | [d1, d2] => { results := [.lit (.bool true)], args := [d1, d2] }
  | _ => none }
def lawS930023LCanonicalRow : OpenClaim := { program := "ymbrdu", sum := "5d0e78990b6d4dc7456a67eb0a78bba5552534b00fe90367b37dff4fe423030c", func := "example.com/own/bigdec.LawS930023LCanonical", spec := "lawS930023LCanonical", apart := false }
def LawS930023LCanonicalSaid : Prop := lawS930023LCanonicalRow.holds Ydum.pinned (OpenSpec.ofChange lawS930023LCanonicalSpec)

/-- ITS FALSE NEIGHBOUR: 'it returns false'. Refute it at one input. -/
def lawS930023LCanonicalWrong : ChangeSpec := { name := "lawS930023LCanonical", fn := fun _ => fun
  | [d1, d2] => { results := [.lit (.bool false)], args := [d1, d2] }
  | _ => none }
def LawS930023LCanonicalWrongFalsely : Prop := lawS930023LCanonicalRow.holds Ydum.pinned (OpenSpec.ofChange lawS930023LCanonicalWrong)

end Rows
end Go.Proofs.Ymbrdu
