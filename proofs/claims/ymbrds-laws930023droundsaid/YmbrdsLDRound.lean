import Derived.Test.YmbrdsFu
import Derived.Test.YmbrdsToU
namespace Go.Proofs.Ymbrds
open Go.RowKit

theorem dig_255 (v j : Nat) : dig v j ≤ 255 := by have := dig_le v j; omega

set_option maxHeartbeats 400000 in
theorem law_DRound (w : World) (x0 : Nat) (h0 : x0 ≤ 18446744073709551615) :
    Calls Ydsm.prog 13 #[.int .u64 (x0 : Int)] w fun e w' => e = .returned (.bool true) ∧ Below w.heap.size w w' := by
  go_enter Ydsm.func13, Ydsm.ntmps13
  go_wp2_with fail
  refine (fromUint64_any x0 h0 _).mono ?_
  rintro e w1 ⟨a, n, c, rfl, ho, hb⟩
  go_wp2_with fail
  refine (toUint64_any _ _ _ (dig x0) _ (by have := ho.2.1; omega) ho.reads (dig_255 x0) x0 ho.1.val).mono ?_
  rintro e w2 ⟨he, _, hb2⟩
  obtain rfl := he h0
  have hc := below_size hb hb2
  clear ho hb hb2 he
  go_wp2
  go_ret
  exact ⟨rfl, hc⟩

end Go.Proofs.Ymbrds
