import Derived.Test.YmbrdtVld
namespace Go.Proofs.Ymbrdt
open Go.RowKit

set_option maxHeartbeats 400000 in
theorem law_GExact (w : World) (a0 : Option Addr) (n0 c0 : Nat) (f0 : Nat → Nat) (r0 : Reads w a0 n0 f0) (b0 : ∀ j, f0 j ≤ 255) (l0 : n0 ≤ c0) (m0 : c0 ≤ 9223372036854775807) :
    Calls Ydtm.prog 8 #[.slice a0 n0 c0] w fun e w' => e = .returned (.bool true) ∧ Below w.heap.size w w' := by
  have R := r0
  obtain ⟨ba, oa, ha, hA⟩ := r0
  go_enter Ydtm.func8, Ydtm.ntmps8
  go_wp2
  go_loop [3, 4, 9] (fun sb sl i => ∃ k b l : Nat, k ≤ n0 ∧ i = .int .i64 (k : Int) ∧ sb = .int .i64 (b : Int) ∧ sl = .int .u8 (l : Int) ∧ b ≤ k ∧ Hid (b = 0 ↔ ∀ j, j < k → f0 j ≤ 9) ∧ Hid ((k = 0 → l = 1) ∧ (0 < k → l = f0 (k - 1)))) (fun _ _ i => n0 - (intOf i).toNat)
  case atStart => exact ⟨0, 0, 1, by omega, rfl, rfl, rfl, by omega, (show _ ↔ _ from ⟨fun _ j hj => by omega, fun _ => rfl⟩), (show _ ∧ _ from ⟨fun _ => rfl, fun h => by omega⟩)⟩
  case round =>
    obtain ⟨k, b, l, hk, rfl, rfl, rfl, hbk, hz, hl⟩ := hrel
    by_cases hlt : k < n0
    · obtain ⟨rfl, hba⟩ := ha (by omega)
      have ga := hA k hlt
      have hj : (k : Int) < n0 := by omega
      have h8 := b0 k
      have hl' : Hid ((k + 1 = 0 → f0 k = 1) ∧ (0 < k + 1 → f0 k = f0 (k + 1 - 1))) := ⟨fun h => by omega, fun _ => rfl⟩
      by_cases h9 : f0 k ≤ 9
      · have hz' : Hid (b = 0 ↔ ∀ j, j < k + 1 → f0 j ≤ 9) := by
          show _ ↔ _
          rw [hz.out]
          constructor
          · intro h j hj
            by_cases e : j = k
            · rw [e]; exact h9
            · exact h j (by omega)
          · intro h j hj; exact h j (by omega)
        have q : ¬ (10 : Int) ≤ f0 k := by omega
        clear hA ha hz hl R b0
        go_wp2
        go_round
        case rel => exact ⟨k + 1, b, f0 k, by omega, by go_num, rfl, rfl, by omega, hz', hl'⟩
        case measure => simp [intOf]; omega
      · have hz' : Hid (b + 1 = 0 ↔ ∀ j, j < k + 1 → f0 j ≤ 9) := by
          show _ ↔ _
          constructor
          · intro h; omega
          · intro h; exact absurd (h k (by omega)) h9
        have q : (10 : Int) ≤ f0 k := by omega
        clear hA ha hz hl R b0
        go_wp2
        go_round
        case rel => exact ⟨k + 1, b + 1, f0 k, by omega, by go_num, by go_num, rfl, by omega, hz', hl'⟩
        case measure => simp [intOf]; omega
    · obtain rfl : k = n0 := by omega
      have hw : (b = 0 ∧ l ≠ 0 ∧ vldB k f0 = true) ∨ (b = 0 ∧ l = 0 ∧ vldB k f0 = false) ∨ (b ≠ 0 ∧ vldB k f0 = false) := by
        by_cases e1 : b = 0
        · by_cases e2 : l = 0
          · refine .inr (.inl ⟨e1, e2, vldB_false fun h => ?_⟩)
            rcases Nat.eq_zero_or_pos k with e3 | e3
            · have := hl.out.1 e3; omega
            · have := hl.out.2 e3
              exact h.2 e3 (by omega)
          · refine .inl ⟨e1, e2, vldB_true ⟨hz.out.1 e1, fun hp => ?_⟩⟩
            have := hl.out.2 hp
            omega
        · exact .inr (.inr ⟨e1, vldB_false fun h => e1 (hz.out.2 h.1)⟩)
      clear hA ha hz hl b0
      have HR : Hid (Reads w a0 k f0) := R
      clear R
      rcases hw with ⟨rfl, h2, h3⟩ | ⟨rfl, rfl, h3⟩ | ⟨h1, h3⟩
      · have q2 : ((l : Int) != 0) = true := by simp; exact h2
        have H3 : Hid (vldB k f0 = true) := h3
        clear h3 h2
        go_wp2_with fail
        refine (valid_any _ _ _ f0 _ (by omega) HR.out).mono ?_
        rintro e w1 ⟨rfl, hb⟩
        rw [H3.out]
        go_wp2
        go_ret
        exact ⟨rfl, hb⟩
      · have H3 : Hid (vldB k f0 = false) := h3
        clear h3
        go_wp2_with fail
        refine (valid_any _ _ _ f0 _ (by omega) HR.out).mono ?_
        rintro e w1 ⟨rfl, hb⟩
        rw [H3.out]
        go_wp2
        go_ret
        exact ⟨rfl, hb⟩
      · have q2 : ((b : Int) == 0) = false := beq_eq_false_iff_ne.2 (by omega)
        have H3 : Hid (vldB k f0 = false) := h3
        clear h3 h1
        go_wp2_with fail
        refine (valid_any _ _ _ f0 _ (by omega) HR.out).mono ?_
        rintro e w1 ⟨rfl, hb⟩
        rw [H3.out]
        go_wp2
        go_ret
        exact ⟨rfl, hb⟩

end Go.Proofs.Ymbrdt
