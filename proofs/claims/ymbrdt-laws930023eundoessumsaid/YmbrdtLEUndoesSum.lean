import Derived.Test.YmbrdtSub
import Derived.Test.YmbrdtESame
import Derived.Test.YmbrdtENorm
import Derived.Test.YmbrdtEAdd
namespace Go.Proofs.Ymbrdt
open Go.RowKit

theorem canon_zero {n : Nat} {f : Nat → Nat} (h : Canon n f) : val f n = 0 ↔ n = 0 := by
  have := h.nd.pos
  omega

set_option maxHeartbeats 1000000 in
theorem law_EUndoesSum (w : World) (a0 : Option Addr) (n0 c0 : Nat) (f0 : Nat → Nat) (r0 : Reads w a0 n0 f0) (b0 : ∀ j, f0 j ≤ 255) (_l0 : n0 ≤ c0) (_m0 : c0 ≤ 9223372036854775807)
    (a1 : Option Addr) (n1 c1 : Nat) (f1 : Nat → Nat) (r1 : Reads w a1 n1 f1) (b1 : ∀ j, f1 j ≤ 255) (_l1 : n1 ≤ c1) (_m1 : c1 ≤ 9223372036854775807) :
    Calls Ydtm.prog 3 #[.slice a0 n0 c0, .slice a1 n1 c1] w fun e w' => e = .returned (.bool true) ∧ Below w.heap.size w w' := by
  by_cases h0 : 1024 < n0
  · go_enter Ydtm.func3, Ydtm.ntmps3
    go_wp2
    go_ret
    exact ⟨rfl, Below.refl _ _⟩
  by_cases h1 : 1024 < n1
  · go_enter Ydtm.func3, Ydtm.ntmps3
    go_wp2
    go_ret
    exact ⟨rfl, Below.refl _ _⟩
  have R0 := mkHid r0
  have R1 := mkHid r1
  have B0 := mkHid b0
  have B1 := mkHid b1
  clear r0 r1 b0 b1
  have F8 : Hid (∀ j, m10 f0 j ≤ 255) := fun j => by unfold m10; omega
  have G8 : Hid (∀ j, m10 f1 j ≤ 255) := fun j => by unfold m10; omega
  have cF := mkHid (m10_canon f0 n0)
  have cG := mkHid (m10_canon f1 n1)
  have lA := tl_le (m10 f0) n0
  have lB := tl_le (m10 f1) n1
  go_enter Ydtm.func3, Ydtm.ntmps3
  go_wp2_with fail
  refine (enorm_any _ _ _ f0 _ (by omega) R0.out B0.out).mono ?_
  rintro e w1 ⟨bA, rfl, hgA, hoA, hb1⟩
  go_wp2_with fail
  refine (enorm_any _ _ _ f1 _ (by omega) (R1.out.later hb1) B1.out).mono ?_
  rintro e w2 ⟨bB, rfl, hgB, hoB, hb2⟩
  have hc2 := below_size hb1 hb2
  replace hoA := hoA.later hb2
  clear R0 R1 B0 B1 hb1 hb2
  generalize tl (m10 f0) n0 = tA at *
  generalize tl (m10 f1) n1 = tB at *
  generalize m10 f0 = F at *
  generalize m10 f1 = G at *
  go_wp2_with fail
  refine (eadd_any _ _ _ _ _ _ F G _ (by omega) (by omega) hoA.reads hoB.reads F8.out G8.out cF.out cG.out).mono ?_
  rintro e w3 ⟨bS, tS, cS, S, rfl, hgS, hlS, hcanS, hvS, hoS, hb3⟩
  have hc3 := below_size hc2 hb3
  replace hoA := hoA.later hb3
  replace hoB := hoB.later hb3
  have cS' := mkHid hcanS
  have vS := mkHid hvS
  clear hc2 hb3 hcanS hvS
  go_wp2_with fail
  refine (sub_ge _ _ _ _ _ _ S G _ (by omega) (by omega) hoS.reads hoB.reads cS'.out cG.out (by rw [vS.out]; omega)).mono ?_
  rintro e w4 ⟨bP, tP, hP, rfl, hgP, hlP, hcanP, hvP, hoP, hb4⟩
  have hc4 := below_size hc3 hb4
  replace hoA := hoA.later hb4
  replace hoB := hoB.later hb4
  replace hoS := hoS.later hb4
  have eP : Hid (sameB tP hP tA F = true) := sameB_canon hcanP cF.out (by rw [hvP, vS.out]; omega)
  clear hc3 hb4 hcanP hvP
  go_wp2_with fail
  refine (esame_any _ _ _ _ _ _ hP F _ (by omega) (by omega) hoP.reads hoA.reads).mono ?_
  rintro e w5 ⟨rfl, hb5⟩
  rw [eP.out]
  have hc5 := below_size hc4 hb5
  replace hoA := hoA.later hb5
  replace hoB := hoB.later hb5
  replace hoS := hoS.later hb5
  clear hc4 hb5 hoP eP
  go_wp2_with fail
  refine (sub_ge _ _ _ _ _ _ S F _ (by omega) (by omega) hoS.reads hoA.reads cS'.out cF.out (by rw [vS.out]; omega)).mono ?_
  rintro e w6 ⟨bQ, tQ, hQ, rfl, hgQ, hlQ, hcanQ, hvQ, hoQ, hb6⟩
  have hc6 := below_size hc5 hb6
  replace hoA := hoA.later hb6
  replace hoB := hoB.later hb6
  replace hoS := hoS.later hb6
  have eQ : Hid (sameB tQ hQ tB G = true) := sameB_canon hcanQ cG.out (by rw [hvQ, vS.out]; omega)
  clear hc5 hb6 hcanQ hvQ
  go_wp2_with fail
  refine (esame_any _ _ _ _ _ _ hQ G _ (by omega) (by omega) hoQ.reads hoB.reads).mono ?_
  rintro e w7 ⟨rfl, hb7⟩
  rw [eQ.out]
  have hc7 := below_size hc6 hb7
  replace hoA := hoA.later hb7
  replace hoS := hoS.later hb7
  clear hc6 hb7 hoQ eQ hoB
  by_cases hz : tB = 0
  · have vG : val G tB = 0 := (canon_zero cG.out).2 hz
    go_wp2_with fail
    refine (sub_ge _ _ _ _ _ _ F S _ (by omega) (by omega) hoA.reads hoS.reads cF.out cS'.out (by rw [vS.out]; omega)).mono ?_
    rintro e w8 ⟨bR, tR, hR, rfl, hgR, hlR, hcanR, hvR, hoR, hb8⟩
    have hc8 := below_size hc7 hb8
    have tR0 : tR = 0 := (canon_zero hcanR).1 (by rw [hvR, vS.out]; omega)
    subst tR0
    have q1 : ((tB : Int) == 0) = true := beq_iff_eq.2 (by omega)
    clear hcanR hvR hoR hoA hoS hc7 hb8 vG hz
    go_wp2
    go_ret
    exact ⟨rfl, hc8⟩
  · have vG : val G tB ≠ 0 := fun h => hz ((canon_zero cG.out).1 h)
    go_wp2_with fail
    refine (sub_lt _ _ _ _ _ _ F S _ (by omega) (by omega) hoA.reads hoS.reads cF.out cS'.out (by rw [vS.out]; omega)).mono ?_
    rintro e w8 ⟨rfl, hb8⟩
    have hc8 := below_size hc7 hb8
    have q1 : ((tB : Int) == 0) = false := beq_eq_false_iff_ne.2 (by omega)
    clear hoA hoS hc7 hb8 vG hz
    go_wp2
    go_ret
    exact ⟨rfl, hc8⟩

end Go.Proofs.Ymbrdt
