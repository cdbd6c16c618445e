import Derived.Test.YmbrdsProg
import Derived.Test.YmbrdsBase
import Derived.Test.YmbrdsPlainA
namespace Go.Proofs.Ymbrds
open Go.RowKit

theorem edig_any (a0 : Option Addr) (n0 c0 i : Nat) (f : Nat → Nat) (w : World) (hf : Reads w a0 n0 f) (f8 : f i ≤ 255) :
    Calls Ydsm.prog 31 #[.slice a0 n0 c0, .int .i64 (i : Int)] w fun e w' => e = .returned (.int .i64 (pad n0 f i : Int)) ∧ w' = w := by
  obtain ⟨ba, oa, ha, hA⟩ := hf
  unfold pad
  by_cases h : i < n0
  · obtain ⟨rfl, hba⟩ := ha (by omega)
    have ga := hA i h
    have t : (i : Int) < n0 := by omega
    rw [if_pos h]
    clear hA ha
    go_enter Ydsm.func31, Ydsm.ntmps31
    go_wp2
    go_ret
    exact ⟨rfl, rfl⟩
  · rw [if_neg h]
    have t : ¬ (i : Int) < n0 := by omega
    clear hA ha
    go_enter Ydsm.func31, Ydsm.ntmps31
    go_wp2
    go_ret
    exact ⟨rfl, rfl⟩

end Go.Proofs.Ymbrds
