import Derived.Test.YmbrdsCmp
import Derived.Test.YmbrdsACanon
import Derived.Test.YmbrdsADig
import Derived.Test.YmbrdsPlainS
namespace Go.Proofs.Ymbrds
open Go.RowKit

theorem want_is {n m : Nat} {f g : Nat → Nat} (hf : Canon n f) (hg : Canon m g) : cmpDown (pad n f) (pad m g) (max n m) = cmpF n f m g := by
  rw [cmpDown_sgn _ (fun i _ => pad_digits hf.1 i) (fun i _ => pad_digits hg.1 i), cmpF_sgn hf hg, val_padded f (Nat.le_max_left n m), val_padded g (Nat.le_max_right n m)]

set_option maxHeartbeats 1000000 in
theorem law_AValue (w : World) (a0 : Option Addr) (n0 c0 : Nat) (f0 : Nat → Nat) (r0 : Reads w a0 n0 f0) (b0 : ∀ j, f0 j ≤ 255) (_l0 : n0 ≤ c0) (_m0 : c0 ≤ 9223372036854775807)
    (a1 : Option Addr) (n1 c1 : Nat) (f1 : Nat → Nat) (r1 : Reads w a1 n1 f1) (b1 : ∀ j, f1 j ≤ 255) (_l1 : n1 ≤ c1) (_m1 : c1 ≤ 9223372036854775807)
    (a2 : Option Addr) (n2 c2 : Nat) (f2 : Nat → Nat) (r2 : Reads w a2 n2 f2) (b2 : ∀ j, f2 j ≤ 255) (_l2 : n2 ≤ c2) (_m2 : c2 ≤ 9223372036854775807) :
    Calls Ydsm.prog 3 #[.slice a0 n0 c0, .slice a1 n1 c1, .slice a2 n2 c2] w fun e w' => e = .returned (.bool true) ∧ Below w.heap.size w w' := by
  by_cases h0 : 1024 < n0
  · go_enter Ydsm.func3, Ydsm.ntmps3
    go_wp2
    go_ret
    exact ⟨rfl, Below.refl _ _⟩
  by_cases h1 : 1024 < n1
  · go_enter Ydsm.func3, Ydsm.ntmps3
    go_wp2
    go_ret
    exact ⟨rfl, Below.refl _ _⟩
  by_cases h2 : 1024 < n2
  · go_enter Ydsm.func3, Ydsm.ntmps3
    go_wp2
    go_ret
    exact ⟨rfl, Below.refl _ _⟩
  have R1 := mkHid r1
  have R2 := mkHid r2
  have B1 := mkHid b1
  have B2 := mkHid b2
  have R0 := mkHid r0
  have B0 := mkHid b0
  clear r0 r1 r2 b0 b1 b2
  go_enter Ydsm.func3, Ydsm.ntmps3
  go_wp2_with fail
  refine (acanon_any _ _ _ _ _ _ f0 f2 _ (by omega) (by omega) R0.out R2.out B0.out B2.out).mono ?_
  rintro e w1 ⟨bA, rfl, hgA, hoA, hb1⟩
  go_wp2_with fail
  refine (acanon_any _ _ _ _ _ _ f1 f2 _ (by omega) (by omega) (R1.out.later hb1) (R2.out.later hb1) B1.out B2.out).mono ?_
  rintro e w2 ⟨bB, rfl, hgB, hoB, hb2⟩
  have hc2 := below_size hb1 hb2
  replace hoA := hoA.later hb2
  have lA := tl_le (jn n0 f0 f2) (n0 + n2)
  have lB := tl_le (jn n1 f1 f2) (n1 + n2)
  replace hoA := (hoA.less lA).reads
  replace hoB := (hoB.less lB).reads
  have CF := mkHid (jn_canon n0 f0 f2 (n0 + n2))
  have CG := mkHid (jn_canon n1 f1 f2 (n1 + n2))
  clear R0 R1 R2 B0 B1 B2 hb1 hb2
  generalize jn n0 f0 f2 = F at *
  generalize jn n1 f1 f2 = G at *
  generalize tl F (n0 + n2) = n at *
  generalize tl G (n1 + n2) = m at *
  obtain ⟨N, hN⟩ : ∃ N, N = max n m := ⟨_, rfl⟩
  have nN : n ≤ N := by omega
  have mN : m ≤ N := by omega
  have Nle : N ≤ 2048 := by omega
  have WI := mkHid (want_is CF.out CG.out)
  rw [← hN] at WI
  have HN := mkHid hN
  clear hN
  go_wp2
  go_loopw [9, 10] (fun sw i wr => ∃ (k : Nat) (z : Int), k ≤ N ∧ i = .int .i64 (k : Int) ∧ sw = .int .i64 z ∧ -1 ≤ z ∧ z ≤ 1 ∧ Hid (cmpDown (pad n F) (pad m G) k = z) ∧ Below w2.heap.size w2 wr) (fun _ i _ => N - (intOf i).toNat)
  case atStart => exact ⟨0, 0, by omega, rfl, rfl, by omega, by omega, (show _ = _ by rfl), Below.refl _ _⟩
  case round =>
    obtain ⟨k, z, hk, rfl, rfl, hz1, hz2, hz, hnx⟩ := hrel
    by_cases hlt : k < N
    · obtain ⟨p, hp⟩ : ∃ p, pad n F k = p := ⟨_, rfl⟩
      obtain ⟨q, hq⟩ : ∃ q, pad m G k = q := ⟨_, rfl⟩
      have p9 : p ≤ 9 := by rw [← hp]; exact pad_digits CF.out.1 k
      have q9 : q ≤ 9 := by rw [← hq]; exact pad_digits CG.out.1 k
      have HP := mkHid hp
      have HQ := mkHid hq
      have ccase : ((k : Int) < (n : Int) ∧ k < n) ∨ ((¬ (k : Int) < (n : Int) ∧ ¬ k < n) ∧ (k : Int) < (m : Int) ∧ k < m) := by
        have := HN.out
        omega
      have zs : Hid (cmpDown (pad n F) (pad m G) (k + 1) = if p < q then -1 else if q < p then 1 else z) := by
        show _ = _
        rw [cmpDown, hp, hq, hz.out]
      clear hp hq hz HN WI
      have fin : Calls Ydsm.prog 16 #[.slice (some ⟨bA, 0, none⟩) n (n0 + n2), .int .i64 (k : Int)] wr (fun e w' => e = .returned (.int .u8 (p : Int)) ∧ w' = wr) := by
        have := adigit_any (some ⟨bA, 0, none⟩) n (n0 + n2) k F wr (hoA.later hnx)
        rwa [HP.out] at this
      have gin : Calls Ydsm.prog 16 #[.slice (some ⟨bB, 0, none⟩) m (n1 + n2), .int .i64 (k : Int)] wr (fun e w' => e = .returned (.int .u8 (q : Int)) ∧ w' = wr) := by
        have := adigit_any (some ⟨bB, 0, none⟩) m (n1 + n2) k G wr (hoB.later hnx)
        rwa [HQ.out] at this
      have FIN := mkHid fin
      have GIN := mkHid gin
      clear fin gin HP HQ
      rcases ccase with ⟨t0, t1⟩ | ⟨⟨t0, t2⟩, t1, t3⟩
      all_goals
        by_cases l1 : p < q
        · rw [if_pos l1] at zs
          have L1 : (p : Int) < q := by omega
          go_wp2_with fail
          refine FIN.out.mono ?_
          rintro e w3 ⟨rfl, rfl⟩
          go_wp2_with fail
          refine GIN.out.mono ?_
          rintro e w3 ⟨rfl, rfl⟩
          clear FIN GIN
          go_wp2
          go_roundw
          case rel => exact ⟨k + 1, -1, by omega, by go_num, rfl, by omega, by omega, zs, hnx⟩
          case measure => simp [intOf]; omega
        · rw [if_neg l1] at zs
          have L1 : ¬ (p : Int) < q := by omega
          by_cases l2 : q < p
          · rw [if_pos l2] at zs
            have L2 : (q : Int) < p := by omega
            go_wp2_with fail
            refine FIN.out.mono ?_
            rintro e w3 ⟨rfl, rfl⟩
            go_wp2_with fail
            refine GIN.out.mono ?_
            rintro e w3 ⟨rfl, rfl⟩
            clear FIN GIN
            go_wp2
            go_roundw
            case rel => exact ⟨k + 1, 1, by omega, by go_num, rfl, by omega, by omega, zs, hnx⟩
            case measure => simp [intOf]; omega
          · rw [if_neg l2] at zs
            have L2 : ¬ (q : Int) < p := by omega
            go_wp2_with fail
            refine FIN.out.mono ?_
            rintro e w3 ⟨rfl, rfl⟩
            go_wp2_with fail
            refine GIN.out.mono ?_
            rintro e w3 ⟨rfl, rfl⟩
            clear FIN GIN
            go_wp2
            go_roundw
            case rel => exact ⟨k + 1, z, by omega, by go_num, rfl, hz1, hz2, zs, hnx⟩
            case measure => simp [intOf]; omega
    · have t0 : ¬ (k : Int) < (n : Int) := by omega
      have t1 : ¬ (k : Int) < (m : Int) := by omega
      have t2 : ¬ k < n := by omega
      have t3 : ¬ k < m := by omega
      have ez : Hid (cmpF n F m G = z) := by
        show _ = _
        rw [← WI.out, ← hz.out, show k = N by omega]
      clear hz WI
      go_wp2_with fail
      refine (compare_any _ _ _ _ _ _ F G _ (by omega) (by omega) (hoA.later hnx) (hoB.later hnx)).mono ?_
      rw [ez.out]
      rintro e w3 ⟨rfl, hb3⟩
      have hc3 := below_size (below_size hc2 hnx) hb3
      have tz : (z == z) = true := by simp
      clear hoA hoB hc2 hnx hb3
      go_wp2
      go_ret
      exact ⟨rfl, hc3⟩

end Go.Proofs.Ymbrds
