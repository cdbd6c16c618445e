import Derived.Test.YmbrdsERight
import Derived.Test.YmbrdsENorm
namespace Go.Proofs.Ymbrds
open Go.RowKit

set_option maxHeartbeats 1000000 in
theorem law_EDifference (w : World) (a0 : Option Addr) (n0 c0 : Nat) (f0 : Nat → Nat) (r0 : Reads w a0 n0 f0) (b0 : ∀ j, f0 j ≤ 255) (_l0 : n0 ≤ c0) (_m0 : c0 ≤ 9223372036854775807)
    (a1 : Option Addr) (n1 c1 : Nat) (f1 : Nat → Nat) (r1 : Reads w a1 n1 f1) (b1 : ∀ j, f1 j ≤ 255) (_l1 : n1 ≤ c1) (_m1 : c1 ≤ 9223372036854775807) :
    Calls Ydsm.prog 14 #[.slice a0 n0 c0, .slice a1 n1 c1] w fun e w' => e = .returned (.bool true) ∧ Below w.heap.size w w' := by
  by_cases h0 : 1024 < n0
  · go_enter Ydsm.func14, Ydsm.ntmps14
    go_wp2
    go_ret
    exact ⟨rfl, Below.refl _ _⟩
  by_cases h1 : 1024 < n1
  · go_enter Ydsm.func14, Ydsm.ntmps14
    go_wp2
    go_ret
    exact ⟨rfl, Below.refl _ _⟩
  have R0 := mkHid r0
  have R1 := mkHid r1
  have B0 := mkHid b0
  have B1 := mkHid b1
  clear r0 r1 b0 b1
  have F8 : Hid (∀ j, m10 f0 j ≤ 255) := fun j => by unfold m10; omega
  have G8 : Hid (∀ j, m10 f1 j ≤ 255) := fun j => by unfold m10; omega
  have cF := mkHid (m10_canon f0 n0)
  have cG := mkHid (m10_canon f1 n1)
  have lA := tl_le (m10 f0) n0
  have lB := tl_le (m10 f1) n1
  have EN0 : Hid (∀ wx, Below w.heap.size w wx → Calls Ydsm.prog 24 #[.slice a0 n0 c0] wx fun e w' => ∃ b, e = .returned (.slice (some ⟨b, 0, none⟩) (tl (m10 f0) n0) (tl (m10 f0) n0)) ∧ wx.heap.size ≤ b ∧ Owns w' 5 b (tl (m10 f0) n0) (by8 (m10 f0)) ∧ Below wx.heap.size wx w') :=
    fun wx hbx => enorm_any _ _ _ f0 wx (by omega) (R0.out.later hbx) B0.out
  have EN1 : Hid (∀ wx, Below w.heap.size w wx → Calls Ydsm.prog 24 #[.slice a1 n1 c1] wx fun e w' => ∃ b, e = .returned (.slice (some ⟨b, 0, none⟩) (tl (m10 f1) n1) (tl (m10 f1) n1)) ∧ wx.heap.size ≤ b ∧ Owns w' 5 b (tl (m10 f1) n1) (by8 (m10 f1)) ∧ Below wx.heap.size wx w') :=
    fun wx hbx => enorm_any _ _ _ f1 wx (by omega) (R1.out.later hbx) B1.out
  clear R0 R1 B0 B1
  generalize tl (m10 f0) n0 = tA at *
  generalize tl (m10 f1) n1 = tB at *
  generalize m10 f0 = F at *
  generalize m10 f1 = G at *
  have SF := mkHid (sameB_true (n := tA) (f := F) (m := tA) (g := F) ⟨rfl, fun _ _ => rfl⟩)
  have SG := mkHid (sameB_true (n := tB) (f := G) (m := tB) (g := G) ⟨rfl, fun _ _ => rfl⟩)
  go_enter Ydsm.func14, Ydsm.ntmps14
  go_wp2_with fail
  refine (EN0.out _ (Below.refl _ _)).mono ?_
  rintro e w1 ⟨bA, rfl, hgA, hoA, hb1⟩
  go_wp2_with fail
  refine (EN1.out _ hb1).mono ?_
  rintro e w2 ⟨bB, rfl, hgB, hoB, hb2⟩
  have hc2 := below_size hb1 hb2
  replace hoA := hoA.later hb2
  clear hb1 hb2
  go_wp2_with fail
  refine (eright_any _ _ _ _ _ _ F G _ (by omega) (by omega) hoA.reads hoB.reads F8.out G8.out cF.out cG.out).mono ?_
  rintro e w3 ⟨rfl, hb3⟩
  have hc3 := below_size hc2 hb3
  replace hoA := hoA.later hb3
  replace hoB := hoB.later hb3
  clear hc2 hb3
  go_wp2_with fail
  refine (eright_any _ _ _ _ _ _ G F _ (by omega) (by omega) hoB.reads hoA.reads G8.out F8.out cG.out cF.out).mono ?_
  rintro e w4 ⟨rfl, hb4⟩
  have hc4 := below_size hc3 hb4
  replace hoA := hoA.later hb4
  replace hoB := hoB.later hb4
  clear hc3 hb4
  go_wp2_with fail
  refine (EN0.out _ hc4).mono ?_
  rintro e w5 ⟨bC, rfl, hgC, hoC, hb5⟩
  have hc5 := below_size hc4 hb5
  replace hoA := hoA.later hb5
  replace hoB := hoB.later hb5
  clear hc4 hb5
  go_wp2_with fail
  refine (esame_any _ _ _ _ _ _ F F _ (by omega) (by omega) hoA.reads hoC.reads).mono ?_
  rintro e w6 ⟨rfl, hb6⟩
  rw [SF.out]
  have hc6 := below_size hc5 hb6
  replace hoB := hoB.later hb6
  clear hc5 hb6 hoA hoC
  go_wp2_with fail
  refine (EN1.out _ hc6).mono ?_
  rintro e w7 ⟨bD, rfl, hgD, hoD, hb7⟩
  have hc7 := below_size hc6 hb7
  replace hoB := hoB.later hb7
  clear hc6 hb7
  go_wp2_with fail
  refine (esame_any _ _ _ _ _ _ G G _ (by omega) (by omega) hoB.reads hoD.reads).mono ?_
  rintro e w8 ⟨rfl, hb8⟩
  rw [SG.out]
  have hc8 := below_size hc7 hb8
  clear hc7 hb8 hoB hoD
  go_wp2
  go_ret
  exact ⟨rfl, hc8⟩

end Go.Proofs.Ymbrds
