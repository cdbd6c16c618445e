import Derived.Test.YmbrdsRows
import Derived.Test.YmbrdsLDLimit
import Derived.WalkKit
import Derived.ProofKit
import Derived.OpenShut
import Derived.ShutString
import Derived.ChangeOld
import Derived.Below
namespace Go.Proofs.Ymbrds.lawS930023DLimit
open Go.ChangeShapes Go.WideShapes Go.ChangeAt Go.RowKit
open Go.ChangeMaps (open_string shut_string)
set_option linter.unusedVariables false

theorem own : ownKnob Ydsm.prog.godebug = none := by kernel_rfl

theorem walk (a0 : Int) (a1 : Bool) (a2 : Int) (a3 : Int) (w0 : (Lit.int .u64 a0).wf = true) (w2 : (Lit.int .u8 a2).wf = true) (w3 : (Lit.int .u8 a3).wf = true) (w : World) :
    Calls Ydsm.prog 12 #[.int .u64 a0, .bool a1, .int .u8 a2, .int .u8 a3] w fun e w' => e = .returned (.bool true) ∧ Below w.heap.size w w' := by
  obtain ⟨x0, rfl, h0⟩ := nat_u64 w0
  obtain ⟨x2, rfl, h2⟩ := nat_u8 w2
  obtain ⟨x3, rfl, h3⟩ := nat_u8 w3
  exact law_DLimit w x0 h0 a1 x2 h2 x3 h3

set_option maxRecDepth 100000 in
theorem lifted (os : Os) (started : os.Started) (H : Type) (enc : TypeId × Value → H) :
    ReturnsInHanded {} Ydsm.checked os 12 .any (Rows.lawS930023DLimitSpec.pre6 enc Ydsm.prog Ydsm.f12 Rows.lawS930023DLimitRow.domain false) (Rows.lawS930023DLimitSpec.post enc Ydsm.prog Ydsm.f12 false true false false) := by
  refine returnsInHanded_of_change (C := Ydsm.checked) own started (by kernel_rfl) Ydsm.func12
    (ChangeSpec.witness6 (enc := enc) (C := Ydsm.checked) false ⟨#[], #[.int .u64 0, .bool false, .int .u8 0, .int .u8 0], []⟩ 8 (by kernel_rfl) (by kernel_rfl) (by kernel_rfl) (by kernel_rfl)) ?_
  intro W base args ds gs before hval0 hW hcnd _
  have hval : ∀ (j : Nat) t v, Ydsm.f12.params[j]? = some t → args[j]? = some v → Value.okWide Ydsm.prog W .any base t v := hval0
  have hW' := hW
  obtain ⟨p, q, hA0, hV, rfl, hfz, hnd⟩ := hW
  have hA : DataW.TrodAll enc Ydsm.prog W 0 (fun _ => true) true Ydsm.f12.params.toList args.toList ds p := hA0
  rw [Ydsm.params12] at hA hval
  obtain ⟨v0, vs0, d0, ds0, p0, q0, hargs, rfl, rfl, h0, r0⟩ := trodAll_cons hA
  obtain ⟨v1, vs1, d1, ds1, p1, q1, rfl, rfl, rfl, h1, r1⟩ := trodAll_cons r0
  obtain ⟨v2, vs2, d2, ds2, p2, q2, rfl, rfl, rfl, h2, r2⟩ := trodAll_cons r1
  obtain ⟨v3, vs3, d3, ds3, p3, q3, rfl, rfl, rfl, h3, r3⟩ := trodAll_cons r2
  obtain ⟨rfl, rfl, rfl⟩ := trodAll_nil r3
  obtain rfl : args = #[v0, v1, v2, v3] := by cases args; simp_all
  obtain ⟨rfl, rfl⟩ := trodVars_none hV
  obtain ⟨a0, rfl, rfl, rfl, w0⟩ := open_int Ydsm.underlying28 (hval 0 28 v0 rfl rfl) h0
  obtain ⟨a1, rfl, rfl, rfl⟩ := open_bool Ydsm.underlying4 (hval 1 4 v1 rfl rfl) h1
  obtain ⟨a2, rfl, rfl, rfl, w2⟩ := open_int Ydsm.underlying5 (hval 2 5 v2 rfl rfl) h2
  obtain ⟨a3, rfl, rfl, rfl, w3⟩ := open_int Ydsm.underlying5 (hval 3 5 v3 rfl rfl) h3
  clear hA0 hval0
  refine (walk a0 a1 a2 a3 w0 w2 w3 W).mono fun e W' ⟨he, bel⟩ => ?_
  subst he
  exact ⟨_, rfl, _, _, _, [], _, [], hW', trodAll_mk1 (shut_bool Ydsm.underlying4 _), (trodAll_cons_mk (shut_int Ydsm.underlying28 w0) (trodAll_cons_mk (shut_bool Ydsm.underlying4 _) (trodAll_cons_mk (shut_int Ydsm.underlying5 w2) (trodAll_cons_mk (shut_int Ydsm.underlying5 w3) trodAll_mk0)))), rfl, bel.frame _, fun h => by cases h⟩

theorem over : Rows.lawS930023DLimitRow.holds Ydsm.pinned (OpenSpec.ofChange Rows.lawS930023DLimitSpec) :=
  OpenClaim.holds_of_wide 12 Ydsm.f12 rfl rfl rfl rfl rfl rfl rfl ⟨rfl, rfl, rfl, rfl, rfl⟩ rfl rfl rfl rfl rfl (by kernel_rfl) Ydsm.func12 (by kernel_rfl)
    (of_decide_eq_true (by kernel_rfl)) (by unfold Func.isWrapper; first | (rw [if_pos (by decide +kernel)]; kernel_rfl) | (rw [if_neg (by decide +kernel)]; exact ⟨rfl, rfl⟩))
    (fun os started H enc _ => lifted os started H enc)

theorem proved : Rows.LawS930023DLimitSaid :=
  over

end Go.Proofs.Ymbrds.lawS930023DLimit
