import Derived.Test.YmbrduShf
namespace Go.Proofs.Ymbrdu
open Go.RowKit

theorem shf_val (f : Nat → Nat) (n k : Nat) : val (shf k f) (n + k) = val f n * 10 ^ k := by
  rw [Nat.add_comm, val_split]
  have e1 : val (shf k f) k = 0 := by
    rw [val_congr (g := fun _ => 0) k (fun i hi => by unfold shf; rw [if_pos hi]), val_zero_fn]
  have e2 : val (fun i => shf k f (k + i)) n = val f n := val_congr n (fun i _ => by unfold shf; rw [if_neg (by omega), show k + i - k = i by omega])
  rw [e1, e2, Nat.zero_add, Nat.mul_comm]

theorem shf_digits {f : Nat → Nat} (hf : ∀ i, f i ≤ 9) (k i : Nat) : shf k f i ≤ 9 := by
  unfold shf
  have := hf (i - k)
  split <;> omega

set_option maxHeartbeats 400000 in
theorem law_JValue (w : World) (x0 : Nat) (h0 : x0 ≤ 4294967295) (x1 : Nat) (h1 : x1 ≤ 255) :
    Calls Ydum.prog 6 #[.int .u32 (x0 : Int), .int .u8 (x1 : Int)] w fun e w' => e = .returned (.bool true) ∧ Below w.heap.size w w' := by
  obtain ⟨k, hk⟩ : ∃ k, x1 % 10 = k := ⟨_, rfl⟩
  have Ek : (x1 : Int) % 10 = (k : Int) := by omega
  have k9 : k ≤ 9 := by omega
  clear hk
  go_enter Ydum.func6, Ydum.ntmps6
  go_wp2
  go_loop [6, 7] (fun sp i => ∃ j u : Nat, j ≤ k ∧ i = .int .i64 (j : Int) ∧ sp = .int .u64 (u : Int) ∧ Hid (u = x0 * 10 ^ j)) (fun _ i => k - (intOf i).toNat)
  case atStart => exact ⟨0, x0, by omega, rfl, rfl, (show _ = _ by simp)⟩
  case round =>
    obtain ⟨j, u, hj, rfl, rfl, hu⟩ := hrel
    have hub : u ≤ 4294967295000000000 := by
      rw [hu.out]
      have h2 : 10 ^ j ≤ 10 ^ 9 := pow_le10 (by omega)
      exact Nat.mul_le_mul h0 h2
    by_cases hlt : j < k
    · have t1 : (j : Int) < k := by omega
      have hub2 : u ≤ 429496729500000000 := by
        rw [hu.out]
        have h2 : 10 ^ j ≤ 10 ^ 8 := pow_le10 (by omega)
        exact Nat.mul_le_mul h0 h2
      have hu' : Hid (u * 10 = x0 * 10 ^ (j + 1)) := by show _ = _; rw [hu.out, Nat.pow_succ, Nat.mul_assoc]
      clear hu
      go_wp2
      go_round
      case rel => exact ⟨j + 1, u * 10, by omega, by go_num, by go_num, hu'⟩
      case measure => simp [intOf]; omega
    · have t1 : ¬ (j : Int) < k := by omega
      have hu' : Hid (u = x0 * 10 ^ k) := by show _ = _; rw [hu.out, show j = k by omega]
      clear hu
      go_wp2_with fail
      refine (fromUint64_any x0 (by omega) _).mono ?_
      rintro e w1 ⟨a, n, c, rfl, ho, hb1⟩
      have n20 := ho.2.1
      have hnv := mkHid ho.1.val
      have hr := ho.reads
      clear ho
      go_wp2_with fail
      refine (shift_yes _ _ _ k (dig x0) _ (by omega) (by omega) hr).mono ?_
      rintro e w2 ⟨bO, rfl, hgO, hoO, hb2⟩
      have hc2 := below_size hb1 hb2
      have hsc : Hid (Canon (tl (shf k (dig x0)) (n + k)) (shf k (dig x0)) ∧ val (shf k (dig x0)) (tl (shf k (dig x0)) (n + k)) = u) :=
        ⟨tl_canon (fun i _ => shf_digits (dig_le x0) k i), by rw [tl_val, shf_val, hnv.out, hu'.out]⟩
      have htl := tl_le (shf k (dig x0)) (n + k)
      clear hr hb1 hb2
      generalize shf k (dig x0) = S at *
      generalize tl S (n + k) = t at *
      go_wp2_with fail
      refine (fromUint64_any u (by omega) _).mono ?_
      rintro e w3 ⟨a3, n3, c3, rfl, ho3, hb3⟩
      have n23 := ho3.2.1
      have hcx := below_size hc2 hb3
      have huq := hsc.out.1.uniq ho3.1.canon (by rw [hsc.out.2, ho3.1.val])
      obtain ⟨rfl, hdd⟩ := huq
      have OC : Hid (∀ i, i < t → w3.cell? ⟨bO, i, none⟩ = some (.int .u8 (dig u i : Int)) ∧ bO < w3.heap.size) := fun i hi => ⟨by rw [(hoO.later hb3).cell i hi]; unfold by8; rw [hdd i hi], (hoO.later hb3).lt⟩
      obtain ⟨ba, oa, ha, hA⟩ := ho3.reads
      have HA := mkHid hA
      have Ha := mkHid ha
      have q1 : ((t : Int) != (t : Int)) = false := by simp
      clear hdd hoO hb3 ho3 hA ha hsc hc2
      go_wp2
      go_loopw [11] (fun i wr => ∃ k : Nat, k ≤ t ∧ i = .int .i64 (k : Int) ∧ Below w3.heap.size w3 wr) (fun i _ => t - (intOf i).toNat)
      case atStart => exact ⟨0, by omega, rfl, Below.refl _ _⟩
      case round =>
        obtain ⟨m, hm, rfl, hnx⟩ := hrel
        by_cases hmt : m < t
        · obtain ⟨rfl, hba⟩ := Ha.out (by omega)
          have ga : wr.cell? ⟨ba, oa + m, none⟩ = some (.int .u8 (dig u m : Int)) := (hnx.cell (by exact hba)).trans (HA.out m hmt)
          have go : wr.cell? ⟨bO, m, none⟩ = some (.int .u8 (dig u m : Int)) := (hnx.cell (p := ⟨bO, m, none⟩) (OC.out m hmt).2).trans (OC.out m hmt).1
          have j1 : (m : Int) < t := by omega
          have q3 : ((dig u m : Int) != (dig u m : Int)) = false := by simp
          clear HA Ha OC
          go_wp2
          go_quiet (fail)
          go_wp2
          go_roundw
          case rel => exact ⟨m + 1, by omega, by go_num, bdrew hnx _⟩
          case measure => simp [intOf]; omega
        · have tk : ¬ (m : Int) < t := by omega
          have hcy := below_size hcx hnx
          clear HA Ha OC
          go_wp2
          go_ret
          exact ⟨rfl, hcy⟩

end Go.Proofs.Ymbrdu
