import Derived.Test.YmbrdtFu
namespace Go.Proofs.Ymbrdt
open Go.RowKit

theorem pow_min19 {k : Nat} (h : k ≤ 19) : 10 ^ (min k 19) = 10 ^ k := by rw [Nat.min_eq_left h]

theorem pow_min_bound (k : Nat) : 10 ^ (min k 19) ≤ 10000000000000000000 := by
  have h2 : 10 ^ (min k 19) ≤ 10 ^ 19 := pow_le10 (Nat.min_le_right _ _)
  omega

theorem div_pos_nd {v n k : Nat} (h : ND v n) (hk : k < n) : 0 < v / 10 ^ k := by
  have h1 := h.2 (by omega)
  have h2 : 10 ^ k ≤ 10 ^ (n - 1) := pow_le10 (by omega)
  exact Nat.div_pos (by omega) (pow_pos10 k)

set_option maxHeartbeats 400000 in
theorem law_FDigits (w : World) (x0 : Nat) (h0 : x0 ≤ 18446744073709551615) :
    Calls Ydtm.prog 5 #[.int .u64 (x0 : Int)] w fun e w' => e = .returned (.bool true) ∧ Below w.heap.size w w' := by
  go_enter Ydtm.func5, Ydtm.ntmps5
  go_wp2_with fail
  refine (fromUint64_any x0 h0 _).mono ?_
  rintro e w1 ⟨a, n, c, rfl, ho, hb⟩
  have hn20 := ho.2.1
  have hnd : Hid (ND x0 n) := ho.1
  obtain ⟨ba, oa, ha, hA⟩ := ho.reads
  clear ho
  have q0 : decide ((20 : Int) < n) = false := by simp; omega
  go_wp2
  go_loopw [5, 6] (fun sp i wr => ∃ k p : Nat, k ≤ n ∧ i = .int .i64 (k : Int) ∧ sp = .int .u64 (p : Int) ∧ Hid (p = 10 ^ (min k 19)) ∧ Below w1.heap.size w1 wr) (fun _ i _ => n - (intOf i).toNat)
  case atStart => exact ⟨0, 1, by omega, rfl, rfl, (show _ = _ by rfl), Below.refl _ _⟩
  case round =>
    obtain ⟨k, p, hk, rfl, rfl, hp, hnx⟩ := hrel
    have hp1 : 0 < p := by rw [hp.out]; exact pow_pos10 _
    have hpb : p ≤ 10000000000000000000 := by rw [hp.out]; exact pow_min_bound k
    obtain ⟨q, hq⟩ : ∃ q, x0 / p = q := ⟨_, rfl⟩
    have Eq : (x0 : Int) / (p : Int) = (q : Int) := by rw [← hq, Int.natCast_ediv]
    by_cases hlt : k < n
    · obtain ⟨rfl, hba⟩ := ha (by omega)
      have hpk : p = 10 ^ k := by rw [hp.out, pow_min19 (by omega)]
      have hqp : 0 < q := by rw [← hq, hpk]; exact div_pos_nd hnd.out hlt
      have hqe : ((q : Int) == 0) = false := beq_eq_false_iff_ne.2 (by omega)
      have hql : q ≤ 18446744073709551615 := by rw [← hq]; exact Nat.le_trans (Nat.div_le_self _ _) h0
      have ga : wr.cell? ⟨ba, oa + k, none⟩ = some (.int .u8 ((q % 10 : Nat) : Int)) := by
        rw [hnx.cell (p := ⟨ba, oa + k, none⟩) hba, hA k hlt, dig, ← hpk, hq]
      have hj : (k : Int) < n := by omega
      have hp10 : Hid (k < 19 → p * 10 = 10 ^ (min (k + 1) 19)) := by
        show _ → _
        intro h
        rw [hpk, pow_min19 (by omega), Nat.pow_succ]
      have hp19 : Hid (¬ k < 19 → p = 10 ^ (min (k + 1) 19)) := by
        show _ → _
        intro h
        rw [hpk, Nat.min_eq_right (by omega), show k = 19 by omega]
      clear hq hpk hA ha hp
      by_cases hk19 : k < 19
      · have hp18 : p * 10 ≤ 10000000000000000000 := by rw [hp10.out hk19]; exact pow_min_bound _
        go_wp2
        go_quiet (fail)
        go_wp2
        go_roundw
        case rel => exact ⟨k + 1, p * 10, by omega, by go_num, by go_num, hp10.out hk19, bdrew hnx _⟩
        case measure => simp [intOf]; omega
      · go_wp2
        go_quiet (fail)
        go_wp2
        go_roundw
        case rel => exact ⟨k + 1, p, by omega, by go_num, rfl, hp19.out hk19, bdrew hnx _⟩
        case measure => simp [intOf]; omega
    · obtain rfl : k = n := by omega
      have hcx := below_size hb hnx
      by_cases hk20 : k = 20
      · have t1 : ((k : Int) == 20) = true := beq_iff_eq.2 (by omega)
        clear hq hA ha hp hnx hb hnd hk20
        go_wp2
        go_ret
        exact ⟨rfl, hcx⟩
      · have t1 : ((k : Int) == 20) = false := beq_eq_false_iff_ne.2 (by omega)
        have hq0 : q = 0 := by rw [← hq, hp.out, pow_min19 (by omega), Nat.div_eq_of_lt hnd.out.1]
        subst hq0
        clear hq hA ha hp hnx hb hnd hk20
        go_wp2
        go_ret
        exact ⟨rfl, hcx⟩

end Go.Proofs.Ymbrdt
