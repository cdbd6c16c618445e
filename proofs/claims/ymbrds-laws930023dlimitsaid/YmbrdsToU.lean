import Derived.Test.YmbrdsProg
import Derived.Test.YmbrdsBase
import Derived.Test.YmbrdsPlain
namespace Go.Proofs.Ymbrds
open Go.RowKit

theorem horner_top (f : Nat → Nat) (j m : Nat) : val (fun i => f (j + i)) (m + 1) = f j + 10 * val (fun i => f (j + 1 + i)) m := by
  rw [val_low]
  congr 2
  exact val_congr m (fun i _ => by rw [Nat.add_assoc, Nat.add_comm i 1])

theorem val_ge_top (f : Nat → Nat) (j m : Nat) : val (fun i => f (j + i)) m ≤ val f (j + m) := by
  rw [val_split]
  have := Nat.mul_le_mul_right (val (fun i => f (j + i)) m) (pow_pos10 j)
  omega


set_option maxHeartbeats 400000 in
theorem toUint64_any (a0 : Option Addr) (n0 c0 : Nat) (f : Nat → Nat) (w : World) (hn0 : n0 ≤ 9223372036854775807)
    (hf : Reads w a0 n0 f) (hb8 : ∀ j, f j ≤ 255) (V : Nat) (hV : val f n0 = V) :
    Calls Ydsm.prog 23 #[.slice a0 n0 c0] w fun e w' => (V ≤ 18446744073709551615 → e = .returned (.tuple #[.int .u64 (V : Int), .bool true])) ∧ (¬ V ≤ 18446744073709551615 → e = .returned (.tuple #[.int .u64 0, .bool false])) ∧ Below w.heap.size w w' := by
  obtain ⟨ba, oa, ha, hA⟩ := hf
  go_enter Ydsm.func23, Ydsm.ntmps23
  go_wp2
  go_loopw [4, 5] (fun sv i wr => ∃ k m u : Nat, k + m = n0 ∧ i = .int .i64 ((k : Int) - 1) ∧ sv = .int .u64 (u : Int) ∧ u ≤ 18446744073709551615 ∧ Hid (val (fun i => f (k + i)) m = u) ∧ Below w.heap.size w wr) (fun _ i _ => (intOf i + 1).toNat)
  case atStart => exact ⟨n0, 0, 0, by omega, rfl, rfl, by omega, (show _ = _ by rfl), Below.refl _ _⟩
  case round =>
    obtain ⟨k, m, u, hkm, rfl, rfl, hu1, hu, hnx⟩ := hrel
    cases k with
    | zero =>
      have e1 : V = u := by
        rw [← hV, ← hu.out]
        obtain rfl : m = n0 := by omega
        exact val_congr m (fun i _ => by rw [Nat.zero_add])
      subst e1
      clear ha hA hV hu hkm
      go_wp2
      go_ret2
      exact ⟨fun _ => rfl, fun h => absurd hu1 h, hnx⟩
    | succ j =>
      obtain ⟨rfl, hba⟩ := ha (by omega)
      have ga : wr.cell? ⟨ba, oa + j, none⟩ = some (.int .u8 (f j : Int)) := (hnx.cell (by exact hba)).trans (hA j (by omega))
      have hj : (j : Int) < n0 := by omega
      have h8 := hb8 j
      have ht : Hid (val (fun i => f (j + i)) (m + 1) = f j + 10 * u) := by show _ = _; rw [horner_top, hu.out]
      have hge : Hid (f j + 10 * u ≤ V) := by
        show _ ≤ _
        rw [← ht.out, ← hV]
        have := val_ge_top f j (m + 1)
        rwa [show j + (m + 1) = n0 by omega] at this
      clear hV hA ha hu
      rw [show ((j + 1 : Nat) : Int) - 1 = (j : Int) by omega]
      by_cases hov : f j + 10 * u ≤ 18446744073709551615
      · have hq : ¬ (18446744073709551615 - (f j : Int)) / 10 < (u : Int) := by omega
        go_wp2
        go_roundw
        case rel => exact ⟨j, m + 1, f j + 10 * u, by omega, rfl, by go_num, hov, ht, hnx⟩
        case measure => simp [intOf]
      · have hq : (18446744073709551615 - (f j : Int)) / 10 < (u : Int) := by omega
        go_wp2
        go_ret2
        exact ⟨fun h => absurd hge.out (by omega), fun _ => rfl, hnx⟩

end Go.Proofs.Ymbrds
