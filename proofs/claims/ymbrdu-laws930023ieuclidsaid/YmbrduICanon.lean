import Derived.Test.YmbrduProg
import Derived.Test.YmbrduBase
import Derived.Test.YmbrduVld
namespace Go.Proofs.Ymbrdu
open Go.RowKit

set_option maxHeartbeats 400000 in
theorem icanon_any (a0 : Option Addr) (n0 c0 : Nat) (f : Nat → Nat) (w : World) (hn0 : n0 ≤ 9223372036854775807) (hf : Reads w a0 n0 f) :
    Calls Ydum.prog 16 #[.slice a0 n0 c0] w fun e w' => e = .returned (.bool (vldB n0 f)) ∧ Below w.heap.size w w' := by
  obtain ⟨ba, oa, ha, hA⟩ := hf
  go_enter Ydum.func16, Ydum.ntmps16
  go_wp2
  go_loop [3] (fun i => ∃ k : Nat, k ≤ n0 ∧ i = .int .i64 (k : Int) ∧ Hid (∀ j, j < k → f j ≤ 9)) (fun i => n0 - (intOf i).toNat)
  case atStart => exact ⟨0, by omega, rfl, (show ∀ _, _ by intro j hj; omega)⟩
  case round =>
    obtain ⟨k, hk, rfl, hz⟩ := hrel
    by_cases hlt : k < n0
    · obtain ⟨rfl, hba⟩ := ha (by omega)
      have ga := hA k hlt
      have hj : (k : Int) < n0 := by omega
      by_cases h9 : f k ≤ 9
      · have hz' : Hid (∀ j, j < k + 1 → f j ≤ 9) := by
          show ∀ _, _
          intro j hj
          by_cases e : j = k
          · rw [e]; exact h9
          · exact hz.out j (by omega)
        have q : ¬ (9 : Int) < f k := by omega
        clear hA ha hz
        go_wp2
        go_round
        case rel => exact ⟨k + 1, by omega, by go_num, hz'⟩
        case measure => simp [intOf]; omega
      · have q : (9 : Int) < f k := by omega
        clear hA ha hz
        go_wp2
        go_ret
        exact ⟨ret_b (vldB_false (fun h => h9 (h.1 k hlt))).symm, Below.refl _ _⟩
    · obtain rfl : k = n0 := by omega
      rcases Nat.eq_zero_or_pos k with rfl | hpos
      · clear hA ha
        go_wp2
        go_ret
        exact ⟨ret_b (vldB_true ⟨fun i hi => by omega, fun h => by omega⟩).symm, Below.refl _ _⟩
      · obtain ⟨s, rfl⟩ : ∃ s, k = s + 1 := ⟨k - 1, by omega⟩
        obtain ⟨rfl, hba⟩ := ha (by omega)
        have ga := hA s (by omega)
        have q1 : ((s : Int) + 1 == 0) = false := beq_eq_false_iff_ne.2 (by omega)
        have es : ((s + 1 : Nat) : Int) - 1 = (s : Int) := by omega
        by_cases h0 : f s = 0
        · have q2 : decide ((0 : Int) < (f s : Int)) = false := by simp; omega
          clear hA ha
          go_wp2
          go_ret
          exact ⟨ret_b (vldB_false (fun h => h.2 (by omega) h0)).symm, Below.refl _ _⟩
        · have q2 : decide ((0 : Int) < (f s : Int)) = true := by simp; omega
          have q3 : 0 < f s := by omega
          clear hA ha
          go_wp2
          go_ret
          exact ⟨ret_b (vldB_true ⟨hz.out, fun _ => h0⟩).symm, Below.refl _ _⟩

end Go.Proofs.Ymbrdu
