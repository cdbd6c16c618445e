import Derived.Test.YmbrdsProg
import Derived.Test.YmbrdsBase
import Derived.Test.YmbrdsPlain
namespace Go.Proofs.Ymbrds
open Go.RowKit

set_option maxHeartbeats 400000 in
theorem compare_any (a0 a1 : Option Addr) (n0 c0 n1 c1 : Nat) (f g : Nat → Nat) (w : World) (hn0 : n0 ≤ 9223372036854775807) (hn1 : n1 ≤ 9223372036854775807)
    (hf : Reads w a0 n0 f) (hg : Reads w a1 n1 g) :
    Calls Ydsm.prog 17 #[.slice a0 n0 c0, .slice a1 n1 c1] w fun e w' => e = .returned (.int .i64 (cmpF n0 f n1 g)) ∧ Below w.heap.size w w' := by
  unfold cmpF
  by_cases h1 : n0 < n1
  · rw [if_pos h1]
    go_enter Ydsm.func17, Ydsm.ntmps17
    go_wp2
    go_ret
    exact ⟨rfl, Below.refl _ _⟩
  by_cases h2 : n1 < n0
  · rw [if_neg h1, if_pos h2]
    go_enter Ydsm.func17, Ydsm.ntmps17
    go_wp2
    go_ret
    exact ⟨rfl, Below.refl _ _⟩
  rw [if_neg h1, if_neg h2]
  obtain rfl : n0 = n1 := by omega
  obtain ⟨ba, oa, ha, hA⟩ := hf
  obtain ⟨bb, ob, hb, hB⟩ := hg
  clear h1 h2 hn1
  go_enter Ydsm.func17, Ydsm.ntmps17
  go_wp2
  go_loopw [5] (fun i wr => ∃ k : Nat, k ≤ n0 ∧ i = .int .i64 ((k : Int) - 1) ∧ cmpDown f g k = cmpDown f g n0 ∧ Below w.heap.size w wr) (fun i _ => (intOf i + 1).toNat)
  case atStart => exact ⟨n0, Nat.le_refl _, rfl, rfl, Below.refl _ _⟩
  case round =>
    obtain ⟨k, hk, rfl, hc, hnx⟩ := hrel
    cases k with
    | zero =>
      clear ha hb hA hB
      go_wp2
      go_ret
      exact ⟨by rw [← hc]; rfl, hnx⟩
    | succ j =>
      obtain ⟨rfl, hba⟩ := ha (by omega)
      obtain ⟨rfl, hbb⟩ := hb (by omega)
      have ga : wr.cell? ⟨ba, oa + j, none⟩ = some (.int .u8 (f j : Int)) := (hnx.cell (by exact hba)).trans (hA j (by omega))
      have gb : wr.cell? ⟨bb, ob + j, none⟩ = some (.int .u8 (g j : Int)) := (hnx.cell (by exact hbb)).trans (hB j (by omega))
      have hj : (j : Int) < n0 := by omega
      have HC : Hid (cmpDown f g (j + 1) = cmpDown f g n0) := hc
      clear hc hA hB ha hb
      rw [show ((j + 1 : Nat) : Int) - 1 = (j : Int) by omega]
      by_cases t1 : f j < g j
      · go_wp2
        go_quiet (fail)
        go_wp2
        go_ret
        exact ⟨ret_i (by rw [← HC.out, cmpDown, if_pos t1]), bdrew hnx _⟩
      by_cases t2 : g j < f j
      · go_wp2
        go_quiet (fail)
        go_wp2
        go_quiet (fail)
        go_wp2
        go_ret
        exact ⟨ret_i (by rw [← HC.out, cmpDown, if_neg t1, if_pos t2]), bdrew (bdrew hnx _) _⟩
      · go_wp2
        go_quiet (fail)
        go_wp2
        go_quiet (fail)
        go_wp2
        go_roundw
        case rel => exact ⟨j, by omega, rfl, by rw [← HC.out, cmpDown, if_neg t1, if_neg t2], bdrew hnx _⟩
        case measure => simp [intOf]

end Go.Proofs.Ymbrds
