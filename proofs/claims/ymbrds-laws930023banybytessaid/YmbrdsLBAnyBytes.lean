import Derived.Test.YmbrdsFmt
namespace Go.Proofs.Ymbrds
open Go.RowKit

set_option maxHeartbeats 400000 in
theorem law_BAnyBytes (w : World) (a0 : Option Addr) (n0 c0 : Nat) (f0 : Nat → Nat) (r0 : Reads w a0 n0 f0) (b0 : ∀ j, f0 j ≤ 255) (_l0 : n0 ≤ c0) (_m0 : c0 ≤ 9223372036854775807) :
    Calls Ydsm.prog 8 #[.slice a0 n0 c0] w fun e w' => e = .returned (.bool true) ∧ Below w.heap.size w w' := by
  by_cases h0 : 1024 < n0
  · go_enter Ydsm.func8, Ydsm.ntmps8
    go_wp2
    go_ret
    exact ⟨rfl, Below.refl _ _⟩
  rcases Nat.eq_zero_or_pos n0 with rfl | hpos
  · go_enter Ydsm.func8, Ydsm.ntmps8
    go_wp2_with fail
    refine (format_nil _ _ _).mono ?_
    rintro e w1 ⟨rfl, hb1⟩
    go_wp2
    go_ret
    exact ⟨rfl, hb1⟩
  have hne : ((n0 : Int) == 0) = false := beq_eq_false_iff_ne.2 (by omega)
  go_enter Ydsm.func8, Ydsm.ntmps8
  go_wp2_with fail
  refine (format_pos _ _ _ f0 _ (by omega) hpos r0 b0).mono ?_
  rintro e w1 ⟨s, rfl, ⟨hsz, hs⟩, hb1⟩
  obtain ⟨ba, oa, ha, hA⟩ := r0
  obtain ⟨rfl, hba⟩ := ha hpos
  clear ha
  have HS : Hid (∀ (i : Nat) (h : i < s.size), (s[i]'h).toNat = (48 + f0 (n0 - 1 - i)) % 256) := hs
  clear hs
  go_wp2
  go_loopw [4] (fun i wr => ∃ k : Nat, k ≤ n0 ∧ i = .int .i64 (k : Int) ∧ Below w.heap.size w wr) (fun i _ => n0 - (intOf i).toNat)
  case atStart => exact ⟨0, by omega, rfl, hb1⟩
  case round =>
    obtain ⟨k, hk, rfl, hnx⟩ := hrel
    by_cases hlt : k < n0
    · have ga : wr.cell? ⟨ba, oa + k, none⟩ = some (.int .u8 (f0 k : Int)) := (hnx.cell (by exact hba)).trans (hA k hlt)
      have hj : (k : Int) < n0 := by omega
      have h8 := b0 k
      have hix : n0 - 1 - k < s.size := by omega
      have hv : (s[n0 - 1 - k]'hix).toNat = (48 + f0 k) % 256 := by rw [HS.out, show n0 - 1 - (n0 - 1 - k) = k by omega]
      clear hA b0 HS hb1
      go_wp2
      go_quiet (fail)
      go_wp2
      go_roundw
      case rel => exact ⟨k + 1, by omega, by go_num, bdrew hnx _⟩
      case measure => simp [intOf]; omega
    · go_wp2
      go_ret
      exact ⟨rfl, hnx⟩

end Go.Proofs.Ymbrds
