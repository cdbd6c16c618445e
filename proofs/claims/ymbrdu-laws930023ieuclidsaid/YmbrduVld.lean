import Derived.Test.YmbrduProg
import Derived.Test.YmbrduBase
import Derived.Test.YmbrduPlain
namespace Go.Proofs.Ymbrdu
open Go.RowKit

def vldB (n : Nat) (f : Nat → Nat) : Bool := (List.range n).all (fun i => decide (f i ≤ 9)) && (n == 0 || f (n - 1) != 0)

theorem vldB_iff (n : Nat) (f : Nat → Nat) : vldB n f = true ↔ Canon n f := by
  unfold vldB Canon
  simp only [Bool.and_eq_true, List.all_eq_true, List.mem_range, decide_eq_true_eq, Bool.or_eq_true, beq_iff_eq, bne_iff_ne]
  constructor
  · rintro ⟨h1, h2⟩
    exact ⟨h1, fun hn => by rcases h2 with h | h; omega; exact h⟩
  · rintro ⟨h1, h2⟩
    refine ⟨h1, ?_⟩
    rcases Nat.eq_zero_or_pos n with h | h
    · exact .inl h
    · exact .inr (h2 h)

theorem vldB_true {n : Nat} {f : Nat → Nat} (h : Canon n f) : vldB n f = true := (vldB_iff n f).2 h
theorem vldB_false {n : Nat} {f : Nat → Nat} (h : ¬ Canon n f) : vldB n f = false := by
  rw [← Bool.not_eq_true, vldB_iff]; exact h

set_option maxHeartbeats 400000 in
theorem valid_any (a0 : Option Addr) (n0 c0 : Nat) (f : Nat → Nat) (w : World) (hn0 : n0 ≤ 9223372036854775807) (hf : Reads w a0 n0 f) :
    Calls Ydum.prog 26 #[.slice a0 n0 c0] w fun e w' => e = .returned (.bool (vldB n0 f)) ∧ Below w.heap.size w w' := by
  obtain ⟨ba, oa, ha, hA⟩ := hf
  go_enter Ydum.func26, Ydum.ntmps26
  go_wp2
  go_loop [3] (fun i => ∃ k : Nat, k ≤ n0 ∧ i = .int .i64 (k : Int) ∧ Hid (∀ j, j < k → f j ≤ 9)) (fun i => n0 - (intOf i).toNat)
  case atStart => exact ⟨0, by omega, rfl, (show ∀ _, _ by intro j hj; omega)⟩
  case round =>
    obtain ⟨k, hk, rfl, hz⟩ := hrel
    by_cases hlt : k < n0
    · obtain ⟨rfl, hba⟩ := ha (by omega)
      have ga := hA k hlt
      have hj : (k : Int) < n0 := by omega
      by_cases h9 : f k ≤ 9
      · have hz' : Hid (∀ j, j < k + 1 → f j ≤ 9) := by
          show ∀ _, _
          intro j hj
          by_cases e : j = k
          · rw [e]; exact h9
          · exact hz.out j (by omega)
        have q : ¬ (9 : Int) < f k := by omega
        clear hA ha hz
        go_wp2
        go_round
        case rel => exact ⟨k + 1, by omega, by go_num, hz'⟩
        case measure => simp [intOf]; omega
      · have q : (9 : Int) < f k := by omega
        clear hA ha hz
        go_wp2
        go_ret
        exact ⟨ret_b (vldB_false (fun h => h9 (h.1 k hlt))).symm, Below.refl _ _⟩
    · obtain rfl : k = n0 := by omega
      rcases Nat.eq_zero_or_pos k with rfl | hpos
      · clear hA ha
        go_wp2
        go_ret
        exact ⟨ret_b (vldB_true ⟨fun i hi => by omega, fun h => by omega⟩).symm, Below.refl _ _⟩
      · obtain ⟨s, rfl⟩ : ∃ s, k = s + 1 := ⟨k - 1, by omega⟩
        obtain ⟨rfl, hba⟩ := ha (by omega)
        have ga := hA s (by omega)
        have q1 : ((s : Int) + 1 == 0) = false := beq_eq_false_iff_ne.2 (by omega)
        have es : ((s + 1 : Nat) : Int) - 1 = (s : Int) := by omega
        by_cases h0 : f s = 0
        · have q2 : ((f s : Int) != 0) = false := by simp [h0]
          clear hA ha
          go_wp2
          go_ret
          exact ⟨ret_b (vldB_false (fun h => h.2 (by omega) h0)).symm, Below.refl _ _⟩
        · have q2 : ((f s : Int) != 0) = true := by simp; exact h0
          clear hA ha
          go_wp2
          go_ret
          exact ⟨ret_b (vldB_true ⟨hz.out, fun _ => h0⟩).symm, Below.refl _ _⟩

end Go.Proofs.Ymbrdu
