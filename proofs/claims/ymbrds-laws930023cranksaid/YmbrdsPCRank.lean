import Derived.Test.YmbrdsRows
import Derived.Test.YmbrdsLCRank
import Derived.WalkKit
import Derived.ProofKit
import Derived.OpenShut
import Derived.ShutString
import Derived.ChangeOld
import Derived.Below
import Derived.Deep.Matrix
namespace Go.Proofs.Ymbrds.lawS930023CRank
open Go.ChangeShapes Go.WideShapes Go.ChangeAt Go.RowKit
open Go.ChangeMaps (open_string shut_string)
set_option linter.unusedVariables false

theorem own : ownKnob Ydsm.prog.godebug = none := by kernel_rfl
theorem laidOut : laidOutB Ydsm.prog = true := by kernel_rfl

set_option maxRecDepth 100000 in
theorem lifted (os : Os) (started : os.Started) (H : Type) (enc : TypeId × Value → H) :
    ReturnsInHanded {} Ydsm.checked os 9 .any (Rows.lawS930023CRankSpec.pre6 enc Ydsm.prog Ydsm.f9 Rows.lawS930023CRankRow.domain false) (Rows.lawS930023CRankSpec.post enc Ydsm.prog Ydsm.f9 false true false false) := by
  refine returnsInHanded_of_change (C := Ydsm.checked) own started (by kernel_rfl) Ydsm.func9
    (ChangeSpec.witness6 (enc := enc) (C := Ydsm.checked) false ⟨#[], #[.slice none 0 0], []⟩ 8 (by kernel_rfl) (by kernel_rfl) (by kernel_rfl) (by kernel_rfl)) ?_
  intro W base args ds gs before hval0 hW hcnd _
  have hval : ∀ (j : Nat) t v, Ydsm.f9.params[j]? = some t → args[j]? = some v → Value.okWide Ydsm.prog W .any base t v := hval0
  have hW' := hW
  obtain ⟨p, q, hA0, hV, rfl, hfz, hnd⟩ := hW
  have hA : DataW.TrodAll enc Ydsm.prog W 0 (fun _ => true) true Ydsm.f9.params.toList args.toList ds p := hA0
  rw [Ydsm.params9] at hA hval
  obtain ⟨v0, vs0, d0, ds0, p0, q0, hargs, rfl, rfl, h0, r0⟩ := trodAll_cons hA
  obtain ⟨rfl, rfl, rfl⟩ := trodAll_nil r0
  obtain rfl : args = #[v0] := by cases args; simp_all
  obtain ⟨rfl, rfl⟩ := trodVars_none hV
  obtain ⟨a0, len0, cap0, rfl⟩ := okWide_slice Ydsm.underlying34 (hval 0 34 v0 rfl rfl)
  have k0 := h0
  have lt0 : ∀ x ∈ p0, x.block < W.heap.size := by obtain ⟨m, hm⟩ := k0; exact DataW.trod_lt m _ _ _ hm
  have wk : Calls Ydsm.prog 9 #[.slice a0 len0 cap0] W fun e w' => e = .returned (.bool true) ∧ Below W.heap.size W w' := by
    obtain ⟨fuel, hf⟩ := h0
    rcases Go.Deep.open_int_rows Ydsm.underlying34 Ydsm.underlying22 Ydsm.underlying5 (by kernel_rfl) (by kernel_rfl) hf with ⟨hcs, _⟩ | ⟨x, l, c, A, L, C, Z, hcs, _, hl, hm, _, hx⟩
    · simp [Value.cells] at hcs
      obtain ⟨rfl, rfl, rfl⟩ := hcs
      exact law_CRank W none 0 0 (fun _ => none) (fun _ => 0) (fun _ => 0) (fun _ _ => 0) ⟨0, 0, fun h => by omega, fun i hi => by omega⟩ (fun i hi => by omega) (Nat.le_refl _) (by omega)
    · simp [Value.cells] at hcs
      obtain ⟨rfl, rfl, rfl⟩ := hcs
      obtain ⟨r0, fd, hF⟩ := rows_of hl hx
      exact law_CRank W _ _ _ A L C fd r0 hF hl (by unfold maxLen at hm; exact hm)
  clear hA0 hval0
  refine wk.mono fun e W' ⟨he, bel⟩ => ?_
  subst he
  exact ⟨_, rfl, _, _, _, [], _, [], hW', trodAll_mk1 (shut_bool Ydsm.underlying4 _), (trodAll_cons_mk (Below.trod laidOut (by kernel_rfl) (of_decide_eq_true (by kernel_rfl)) k0 bel lt0) trodAll_mk0), rfl, bel.frame _, fun h => by cases h⟩

theorem over : Rows.lawS930023CRankRow.holds Ydsm.pinned (OpenSpec.ofChange Rows.lawS930023CRankSpec) :=
  OpenClaim.holds_of_wide 9 Ydsm.f9 rfl rfl rfl rfl rfl rfl rfl ⟨rfl, rfl, rfl, rfl, rfl⟩ rfl rfl rfl rfl rfl (by kernel_rfl) Ydsm.func9 (by kernel_rfl)
    (of_decide_eq_true (by kernel_rfl)) (by unfold Func.isWrapper; first | (rw [if_pos (by decide +kernel)]; kernel_rfl) | (rw [if_neg (by decide +kernel)]; exact ⟨rfl, rfl⟩))
    (fun os started H enc _ => lifted os started H enc)

theorem proved : Rows.LawS930023CRankSaid := over

end Go.Proofs.Ymbrds.lawS930023CRank
