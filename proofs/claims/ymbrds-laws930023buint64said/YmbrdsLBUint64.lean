import Derived.Test.YmbrdsFmt
namespace Go.Proofs.Ymbrds
open Go.RowKit

theorem dig_horner (v j : Nat) : v / 10 ^ (j + 1) * 10 + dig v j = v / 10 ^ j := by
  rw [Nat.pow_succ, ← Nat.div_div_eq_div_mul, dig]
  omega

set_option maxHeartbeats 400000 in
theorem law_BUint64 (w : World) (x0 : Nat) (h0 : x0 ≤ 18446744073709551615) :
    Calls Ydsm.prog 7 #[.int .u64 (x0 : Int)] w fun e w' => e = .returned (.bool true) ∧ Below w.heap.size w w' := by
  rcases Nat.eq_zero_or_pos x0 with rfl | hpos
  · go_enter Ydsm.func7, Ydsm.ntmps7
    go_wp2_with fail
    refine (fromUint64_any 0 (by omega) _).mono ?_
    rintro e w1 ⟨a, n, c, rfl, ho, hb⟩
    obtain rfl : n = 0 := ho.1.uniq ND.zero
    go_wp2_with fail
    refine (format_nil _ _ _).mono ?_
    rintro e w2 ⟨rfl, hb2⟩
    have hc := below_size hb hb2
    clear ho hb hb2
    go_wp2
    go_ret
    exact ⟨rfl, hc⟩
  have hne : ((x0 : Int) == 0) = false := beq_eq_false_iff_ne.2 (by omega)
  go_enter Ydsm.func7, Ydsm.ntmps7
  go_wp2_with fail
  refine (fromUint64_any x0 h0 _).mono ?_
  rintro e w1 ⟨a, n, c, rfl, ho, hb⟩
  have hn := (ho.1.pos).1 hpos
  have hn20 := ho.2.1
  have hcn : Hid (ND x0 n) := ho.1
  go_wp2_with fail
  refine (format_pos _ _ _ (dig x0) _ (by omega) hn ho.reads (fun j => by have := dig_le x0 j; omega)).mono ?_
  rintro e w2 ⟨s, rfl, ⟨hsz, hs⟩, hb2⟩
  have hc := below_size hb hb2
  have HS : Hid (∀ (i : Nat) (h : i < s.size), (s[i]'h).toNat = 48 + dig x0 (n - 1 - i)) := fun i h => by
    have e := hs i h
    simp only at e
    rw [e]
    have := dig_le x0 (n - 1 - i)
    omega
  have hi0 : 0 < s.size := by omega
  have hv0 : (s[0]'hi0).toNat = 48 + dig x0 (n - 1) := by rw [HS.out]; rfl
  have hd0 := dig_le x0 (n - 1)
  have hd1 : dig x0 (n - 1) ≠ 0 := ho.1.canon.2 hn
  have HD : Hid (dig x0 (n - 1) ≠ 0) := hd1
  have hd2 : 1 ≤ dig x0 (n - 1) := by omega
  have q1 : ((n : Int) == 0) = false := beq_eq_false_iff_ne.2 (by omega)
  have q2 : decide ((20 : Int) < n) = false := by simp; omega
  have q3 : ((48 : Int) + dig x0 (n - 1) == 48) = false := beq_eq_false_iff_ne.2 (by omega)
  clear hs ho hb hb2 hd1
  go_wp2
  go_loopw [4, 5] (fun g i wr => ∃ k u : Nat, k ≤ n ∧ i = .int .i64 (k : Int) ∧ g = .int .u64 (u : Int) ∧ Hid (u = x0 / 10 ^ (n - k)) ∧ Below w.heap.size w wr) (fun _ i _ => n - (intOf i).toNat)
  case atStart =>
    refine ⟨0, 0, by omega, rfl, rfl, ?_, hc⟩
    show _ = _
    rw [Nat.sub_zero, Nat.div_eq_of_lt hcn.out.1]
  case round =>
    obtain ⟨k, u, hk, rfl, rfl, hu, hnx⟩ := hrel
    by_cases hlt : k < n
    · have hix : k < s.size := by omega
      have hv : (s[k]'hix).toNat = 48 + dig x0 (n - 1 - k) := by rw [HS.out]
      have hdl := dig_le x0 (n - 1 - k)
      have hst : u * 10 + dig x0 (n - 1 - k) = x0 / 10 ^ (n - 1 - k) := by
        rw [hu.out, show n - k = (n - 1 - k) + 1 by omega]
        exact dig_horner _ _
      have hle : u * 10 + dig x0 (n - 1 - k) ≤ 18446744073709551615 := by
        rw [hst]
        exact Nat.le_trans (Nat.div_le_self _ _) h0
      have HST : Hid (u * 10 + dig x0 (n - 1 - k) = x0 / 10 ^ (n - (k + 1))) := by
        show _ = _
        rw [hst, show n - 1 - k = n - (k + 1) by omega]
      generalize dig x0 (n - 1 - k) = d at *
      have q1 : decide ((48 : Int) + d < 48) = false := by simp; omega
      have q2 : decide ((57 : Int) < 48 + d) = false := by simp; omega
      clear hst HS hu hv0 hd0 HD hd2
      go_wp2
      go_roundw
      case rel => exact ⟨k + 1, u * 10 + d, by omega, by go_num, by go_num, HST, hnx⟩
      case measure => simp [intOf]; omega
    · obtain rfl : k = n := by omega
      have hx : u = x0 := by rw [hu.out, Nat.sub_self]; simp
      subst hx
      clear hu HS
      go_wp2
      go_ret
      exact ⟨rfl, hnx⟩

end Go.Proofs.Ymbrds
