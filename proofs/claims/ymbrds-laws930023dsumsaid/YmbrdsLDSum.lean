import Derived.Test.YmbrdsToU
namespace Go.Proofs.Ymbrds
open Go.RowKit

theorem val_mono (f : Nat → Nat) {k n : Nat} (h : k ≤ n) : val f k ≤ val f n := by
  obtain ⟨m, rfl⟩ := Nat.exists_eq_add_of_le h
  rw [val_split]
  omega

theorem dsum_big {f : Nat → Nat} {k n : Nat} (hk : k < n) (h19 : 19 < k) (hd : f k ≠ 0) : ¬ val f n ≤ 18446744073709551615 := by
  have h1 := val_mono f (show k + 1 ≤ n by omega)
  have h2 : 10 ^ 20 ≤ 10 ^ k := pow_le10 (by omega)
  have h3 : 1 * 10 ^ k ≤ f k * 10 ^ k := Nat.mul_le_mul_right _ (by omega)
  rw [val] at h1
  omega

theorem pow_min {k : Nat} (h : k ≤ 19) : 10 ^ (min k 19) = 10 ^ k := by rw [Nat.min_eq_left h]

theorem dsum_pow_bound (k : Nat) : 10 ^ (min k 19) ≤ 10000000000000000000 := by
  have h2 : 10 ^ (min k 19) ≤ 10 ^ 19 := pow_le10 (Nat.min_le_right _ _)
  omega

theorem div_lt_iff {a p d : Nat} (hp : 0 < p) : a / p < d ↔ a < d * p := Nat.div_lt_iff_lt_mul hp

set_option maxHeartbeats 1000000 in
theorem law_DSum (w : World) (a0 : Option Addr) (n0 c0 : Nat) (f0 : Nat → Nat) (r0 : Reads w a0 n0 f0) (b0 : ∀ j, f0 j ≤ 255) (_l0 : n0 ≤ c0) (_m0 : c0 ≤ 9223372036854775807) :
    Calls Ydsm.prog 11 #[.slice a0 n0 c0] w fun e w' => e = .returned (.bool true) ∧ Below w.heap.size w w' := by
  by_cases h0 : 1024 < n0
  · go_enter Ydsm.func11, Ydsm.ntmps11
    go_wp2
    go_ret
    exact ⟨rfl, Below.refl _ _⟩
  obtain ⟨V, hV⟩ : ∃ V, val f0 n0 = V := ⟨_, rfl⟩
  have HV : Hid (val f0 n0 = V) := hV
  clear hV
  have R := r0
  obtain ⟨ba, oa, ha, hA⟩ := r0
  have B8 : Hid (∀ j, f0 j ≤ 255) := b0
  clear b0
  go_enter Ydsm.func11, Ydsm.ntmps11
  go_wp2
  go_loopw [3, 4, 5, 6] (fun ss sp sf i wr => ∃ (k s p : Nat) (fb : Bool), k ≤ n0 ∧ i = .int .i64 (k : Int) ∧ ss = .int .u64 (s : Int) ∧ sp = .int .u64 (p : Int) ∧ sf = .bool fb ∧
      Hid (p = 10 ^ (min k 19)) ∧ s ≤ 18446744073709551615 ∧ Hid (fb = true → s = val f0 k) ∧ Hid (fb = false → ¬ V ≤ 18446744073709551615) ∧ Below w.heap.size w wr) (fun _ _ sf i _ => n0 - (intOf i).toNat)
  case atStart => exact ⟨0, 0, 1, true, by omega, rfl, rfl, rfl, rfl, (show _ = _ by rfl), by omega, (show _ → _ from fun _ => rfl), (show _ → _ from fun h => by cases h), Below.refl _ _⟩
  case round =>
    obtain ⟨k, s, p, fb, hk, rfl, rfl, rfl, rfl, hp, hs, ht, hf, hnx⟩ := hrel
    by_cases hlt : k < n0
    · cases fb with
      | false =>
        have hbig := hf.out rfl
        clear ha hA hf ht hp
        go_wp2_with fail
        refine (toUint64_any _ _ _ f0 _ (by omega) (R.later hnx) B8.out V HV.out).mono ?_
        rintro e w2 ⟨_, he, hb2⟩
        obtain rfl := he hbig
        have hc := below_size hnx hb2
        clear he hnx hb2
        go_wp2
        go_ret
        exact ⟨rfl, hc⟩
      | true =>
        obtain ⟨rfl, hba⟩ := ha (by omega)
        have ga : wr.cell? ⟨ba, oa + k, none⟩ = some (.int .u8 (f0 k : Int)) := (hnx.cell (by exact hba)).trans (hA k hlt)
        have hj : (k : Int) < n0 := by omega
        have h8 := B8.out k
        have hsv := ht.out rfl
        have hpb := dsum_pow_bound k
        rw [← hp.out] at hpb
        have hp1 : 0 < p := by rw [hp.out]; exact pow_pos10 _
        have hp10 : Hid (k < 19 → p * 10 = 10 ^ (min (k + 1) 19)) := by
          show _ → _
          intro h
          rw [hp.out, pow_min (by omega), pow_min (by omega), Nat.pow_succ]
        have hp19 : Hid (¬ k < 19 → p = 10 ^ (min (k + 1) 19)) := by
          show _ → _
          intro h
          rw [hp.out, Nat.min_eq_right (by omega), Nat.min_eq_right (by omega)]
        have hvs : Hid (k ≤ 19 → val f0 (k + 1) = s + f0 k * p) := by
          show _ → _
          intro h
          rw [val, hsv, hp.out, pow_min h]
        have hle : Hid (val f0 (k + 1) ≤ V) := by show _ ≤ _; rw [← HV.out]; exact val_mono f0 hlt
        have HS : Hid (s = val f0 k) := hsv
        have hbig : Hid (19 < k → f0 k ≠ 0 → ¬ V ≤ 18446744073709551615) := by
          show _ → _
          intro h1 h2
          rw [← HV.out]
          exact dsum_big hlt h1 h2
        clear hsv ht hf HV R hA ha hp
        by_cases hd : f0 k = 0
        · have hd0 : ((f0 k : Int) != 0) = false := by simp [hd]
          have hv2 : Hid (s = val f0 (k + 1)) := by show _ = _; rw [val, hd, HS.out]; simp
          by_cases hk19 : k < 19
          · have hp18 : p * 10 ≤ 10000000000000000000 := by rw [hp10.out hk19]; exact dsum_pow_bound _
            go_wp2
            go_roundw
            case rel => exact ⟨k + 1, s, p * 10, true, by omega, by go_num, rfl, by go_num, rfl, hp10.out hk19, hs, (show _ → _ from fun _ => hv2.out), (show _ → _ from fun h => by cases h), hnx⟩
            case measure => simp [intOf]; omega
          · go_wp2
            go_roundw
            case rel => exact ⟨k + 1, s, p, true, by omega, by go_num, rfl, rfl, rfl, hp19.out hk19, hs, (show _ → _ from fun _ => hv2.out), (show _ → _ from fun h => by cases h), hnx⟩
            case measure => simp [intOf]; omega
        · have hd0 : ((f0 k : Int) != 0) = true := by simp; exact hd
          by_cases hk20 : 19 < k
          · have hb := hbig.out hk20 hd
            have hb2 : Hid (¬ V ≤ 18446744073709551615) := hb
            clear hb
            go_wp2
            go_roundw
            case rel => exact ⟨k + 1, s, p, false, by omega, by go_num, rfl, rfl, rfl, hp19.out (by omega), hs, (show _ → _ from fun h => by cases h), (show _ → _ from fun _ => hb2.out), hnx⟩
            case measure => simp [intOf]; omega
          · have hv2 := hvs.out (by omega)
            have hq0 : ((18446744073709551615 - (s : Int)) / (p : Int)) = (((18446744073709551615 - s) / p : Nat) : Int) := by
              rw [Int.natCast_ediv, Int.ofNat_sub hs]; rfl
            by_cases hov : s + f0 k * p ≤ 18446744073709551615
            · have hq : ¬ ((18446744073709551615 - (s : Int)) / (p : Int)) < (f0 k : Int) := by
                rw [hq0]
                have := (div_lt_iff (a := 18446744073709551615 - s) (d := f0 k) hp1)
                omega
              have hm1 : (f0 k : Int) * (p : Int) = ((f0 k * p : Nat) : Int) := by rw [Int.natCast_mul]
              have hm2 : (f0 k : Int) * (p : Int) ≤ 18446744073709551615 - s := by omega
              have hm3 : 0 ≤ (f0 k : Int) * (p : Int) := by omega
              have HV2 : Hid (s + f0 k * p = val f0 (k + 1)) := hv2.symm
              clear hq0 hv2 hm1
              by_cases hk19 : k < 19
              · have hp18 : p * 10 ≤ 10000000000000000000 := by rw [hp10.out hk19]; exact dsum_pow_bound _
                go_wp2
                go_roundw
                case rel => exact ⟨k + 1, s + f0 k * p, p * 10, true, by omega, by go_num, by simp, by go_num, rfl, hp10.out hk19, hov, (show _ → _ from fun _ => HV2.out), (show _ → _ from fun h => by cases h), hnx⟩
                case measure => simp [intOf]; omega
              · go_wp2
                go_roundw
                case rel => exact ⟨k + 1, s + f0 k * p, p, true, by omega, by go_num, by simp, rfl, rfl, hp19.out hk19, hov, (show _ → _ from fun _ => HV2.out), (show _ → _ from fun h => by cases h), hnx⟩
                case measure => simp [intOf]; omega
            · have hq : ((18446744073709551615 - (s : Int)) / (p : Int)) < (f0 k : Int) := by
                rw [hq0]
                have := (div_lt_iff (a := 18446744073709551615 - s) (d := f0 k) hp1)
                omega
              have hb2 : Hid (¬ V ≤ 18446744073709551615) := by
                show ¬ _
                have := hle.out
                omega
              clear hq0 hv2
              by_cases hk19 : k < 19
              · have hp18 : p * 10 ≤ 10000000000000000000 := by rw [hp10.out hk19]; exact dsum_pow_bound _
                go_wp2
                go_roundw
                case rel => exact ⟨k + 1, s, p * 10, false, by omega, by go_num, rfl, by go_num, rfl, hp10.out hk19, hs, (show _ → _ from fun h => by cases h), (show _ → _ from fun _ => hb2.out), hnx⟩
                case measure => simp [intOf]; omega
              · go_wp2
                go_roundw
                case rel => exact ⟨k + 1, s, p, false, by omega, by go_num, rfl, rfl, rfl, hp19.out hk19, hs, (show _ → _ from fun h => by cases h), (show _ → _ from fun _ => hb2.out), hnx⟩
                case measure => simp [intOf]; omega
    · obtain rfl : k = n0 := by omega
      cases fb with
      | false =>
        have hbig := hf.out rfl
        clear ha hA hf ht hp
        go_wp2_with fail
        refine (toUint64_any _ _ _ f0 _ (by omega) (R.later hnx) B8.out V HV.out).mono ?_
        rintro e w2 ⟨_, he, hb2⟩
        obtain rfl := he hbig
        have hc := below_size hnx hb2
        clear he hnx hb2
        go_wp2
        go_ret
        exact ⟨rfl, hc⟩
      | true =>
        have hsv := ht.out rfl
        rw [HV.out] at hsv
        subst hsv
        clear ha hA hf ht hp
        go_wp2_with fail
        refine (toUint64_any _ _ _ f0 _ (by omega) (R.later hnx) B8.out s HV.out).mono ?_
        rintro e w2 ⟨he, _, hb2⟩
        obtain rfl := he hs
        have hc := below_size hnx hb2
        clear he hnx hb2
        go_wp2
        go_ret
        exact ⟨rfl, hc⟩

end Go.Proofs.Ymbrds
