import Derived.Test.YmbrduDiv
import Derived.Test.YmbrduICanon
import Derived.Test.YmbrduILess
import Derived.Test.YmbrduICopy
import Derived.WalkSpells
namespace Go.Proofs.Ymbrdu
open Go.RowKit

set_option maxHeartbeats 1000000 in
theorem law_IGuard (w : World) (a0 : Option Addr) (n0 c0 : Nat) (f0 : Nat → Nat) (r0 : Reads w a0 n0 f0) (b0 : ∀ j, f0 j ≤ 255) (_l0 : n0 ≤ c0) (_m0 : c0 ≤ 9223372036854775807)
    (a1 : Option Addr) (n1 c1 : Nat) (f1 : Nat → Nat) (r1 : Reads w a1 n1 f1) (b1 : ∀ j, f1 j ≤ 255) (_l1 : n1 ≤ c1) (_m1 : c1 ≤ 9223372036854775807) (a2 : Bool) :
    Calls Ydum.prog 4 #[.slice a0 n0 c0, .slice a1 n1 c1, .bool a2] w fun e w' => e = .returned (.bool true) ∧ Below w.heap.size w w' := by
  by_cases h0 : 1024 < n0
  · go_enter Ydum.func4, Ydum.ntmps4
    go_wp2
    go_ret
    exact ⟨rfl, Below.refl _ _⟩
  by_cases h1 : 1024 < n1
  · go_enter Ydum.func4, Ydum.ntmps4
    go_wp2
    go_ret
    exact ⟨rfl, Below.refl _ _⟩
  have R0 := mkHid r0
  have R1 := mkHid r1
  have B0 := mkHid b0
  have B1 := mkHid b1
  clear r0 r1 b0 b1
  have hnl := fun (wx : World) (a : Option Addr) (n c : Nat) => Lib.run_eql_slice_nil (P := Ydum.prog) wx 24 5 a n c 0 0 Ydum.underlying24
  go_enter Ydum.func4, Ydum.ntmps4
  go_wp2_with fail
  refine (icopy_any _ _ _ _ f0 _ (by omega) R0.out B0.out).mono ?_
  rintro e w1 ⟨bA, rfl, hgA, hoA, hb1⟩
  go_wp2_with fail
  refine (icopy_any _ _ _ _ f1 _ (by omega) (R1.out.later hb1) B1.out).mono ?_
  rintro e w2 ⟨bB, rfl, hgB, hoB, hb2⟩
  have hc2 := below_size hb1 hb2
  replace hoA := hoA.later hb2
  clear R0 R1 B0 B1 hb1 hb2
  generalize tam a2 f0 = F at *
  generalize tam a2 f1 = G at *
  by_cases hpos : 0 < n1
  · have tp : decide ((0 : Int) < (n1 : Int)) = true := by simp; omega
    by_cases cF : Canon n0 F
    · have vF := mkHid (vldB_true cF)
      by_cases cG : Canon n1 G
      · have vG := mkHid (vldB_true cG)
        have CF := mkHid cF
        have CG := mkHid cG
        clear cF cG
        go_wp2_with fail
        refine (icanon_any _ _ _ F _ (by omega) hoA.reads).mono ?_
        rw [vF.out]
        rintro e w3 ⟨rfl, hb3⟩
        replace hoA := hoA.later hb3
        replace hoB := hoB.later hb3
        have hc3 := below_size hc2 hb3
        go_wp2_with fail
        refine (icanon_any _ _ _ G _ (by omega) hoB.reads).mono ?_
        rw [vG.out]
        rintro e w4 ⟨rfl, hb4⟩
        replace hoA := hoA.later hb4
        replace hoB := hoB.later hb4
        have hc4 := below_size hc3 hb4
        clear hc2 hc3 hb3 hb4
        go_wp2_with fail
        refine (divmod_yes _ _ _ _ _ _ F G _ (by omega) (by omega) hoA.reads hoB.reads hpos CF.out CG.out _ _ rfl rfl).mono ?_
        rintro e w5 ⟨bq, tq, ar, nr, cr, hq, hr, rfl, htq, hnr, cq, vq, rq, cr', vr, rr, hb5⟩
        have hc5 := below_size hc4 hb5
        replace hoB := hoB.later hb5
        have vQ := mkHid (vldB_true cq)
        have vR := mkHid (vldB_true cr')
        have lR : Hid (lessB nr hr n1 G = true) := lessB_val cr' CG.out (by rw [vr]; exact Nat.mod_lt _ (CG.out.nd.pos.2 hpos))
        clear hc4 hb5 cq vq cr' vr
        go_wp2_with fail
        refine (icanon_any _ _ _ hq _ (by omega) rq).mono ?_
        rw [vQ.out]
        rintro e w6 ⟨rfl, hb6⟩
        replace rr := rr.later hb6
        replace hoB := hoB.later hb6
        have hc6 := below_size hc5 hb6
        go_wp2_with fail
        refine (icanon_any _ _ _ hr _ (by omega) rr).mono ?_
        rw [vR.out]
        rintro e w7 ⟨rfl, hb7⟩
        replace rr := rr.later hb7
        replace hoB := hoB.later hb7
        have hc7 := below_size hc6 hb7
        go_wp2_with fail
        refine (iless_any _ _ _ _ _ _ hr G _ (by omega) (by omega) rr hoB.reads).mono ?_
        rw [lR.out]
        rintro e w8 ⟨rfl, hb8⟩
        have hc8 := below_size hc7 hb8
        clear hoA hoB rq rr hc5 hc6 hc7 hb6 hb7 hb8
        go_wp2
        go_ret
        exact ⟨rfl, hc8⟩
      · have vG := mkHid (vldB_false cG)
        go_wp2_with fail
        refine (icanon_any _ _ _ F _ (by omega) hoA.reads).mono ?_
        rw [vF.out]
        rintro e w3 ⟨rfl, hb3⟩
        replace hoA := hoA.later hb3
        replace hoB := hoB.later hb3
        have hc3 := below_size hc2 hb3
        go_wp2_with fail
        refine (icanon_any _ _ _ G _ (by omega) hoB.reads).mono ?_
        rw [vG.out]
        rintro e w4 ⟨rfl, hb4⟩
        replace hoA := hoA.later hb4
        replace hoB := hoB.later hb4
        have hc4 := below_size hc3 hb4
        clear hc2 hc3 hb3 hb4
        go_wp2_with fail
        refine (divmod_no _ _ _ _ _ _ F G _ (by omega) (by omega) hoA.reads hoB.reads (fun h => cG h.2.2)).mono ?_
        rintro e w5 ⟨rfl, hb5⟩
        have hc5 := below_size hc4 hb5
        clear hoA hoB hc4 hb5 cG cF
        go_wp2
        go_ret
        exact ⟨rfl, hc5⟩
    · have vF := mkHid (vldB_false cF)
      go_wp2_with fail
      refine (icanon_any _ _ _ F _ (by omega) hoA.reads).mono ?_
      rw [vF.out]
      rintro e w3 ⟨rfl, hb3⟩
      replace hoA := hoA.later hb3
      replace hoB := hoB.later hb3
      have hc3 := below_size hc2 hb3
      clear hc2 hb3
      go_wp2_with fail
      refine (divmod_no _ _ _ _ _ _ F G _ (by omega) (by omega) hoA.reads hoB.reads (fun h => cF h.2.1)).mono ?_
      rintro e w5 ⟨rfl, hb5⟩
      have hc5 := below_size hc3 hb5
      clear hoA hoB hc3 hb5 cF
      go_wp2
      go_ret
      exact ⟨rfl, hc5⟩
  · have tp : decide ((0 : Int) < (n1 : Int)) = false := by simp; omega
    go_wp2_with fail
    refine (divmod_no _ _ _ _ _ _ F G _ (by omega) (by omega) hoA.reads hoB.reads (fun h => hpos h.1)).mono ?_
    rintro e w5 ⟨rfl, hb5⟩
    have hc5 := below_size hc2 hb5
    clear hoA hoB hc2 hb5
    go_wp2
    go_ret
    exact ⟨rfl, hc5⟩

end Go.Proofs.Ymbrdu
