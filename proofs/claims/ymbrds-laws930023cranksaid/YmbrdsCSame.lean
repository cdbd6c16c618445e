import Derived.Test.YmbrdsProg
import Derived.Test.YmbrdsBase
import Derived.Test.YmbrdsFu
import Derived.WalkSpells
import Derived.LaidEqlPtr
namespace Go.Proofs.Ymbrds
open Go.RowKit

set_option maxHeartbeats 400000 in
theorem csame_refl (a : Option Addr) (n c : Nat) (w : World) (ha : 0 < n → ∃ b o, a = some ⟨b, o, none⟩) :
    Calls Ydsm.prog 22 #[.slice a n c, .slice a n c] w fun e w' => e = .returned (.bool true) ∧ ∃ m, w' = w.drewN m := by
  have hnl := fun (wx : World) (a : Option Addr) (n c : Nat) => Lib.run_eql_slice_nil (P := Ydsm.prog) wx 23 5 a n c 0 0 Ydsm.underlying23
  have q0 : ((n : Int) != (n : Int)) = false := by simp
  rcases Nat.eq_zero_or_pos n with rfl | hpos
  · clear ha
    cases a with
    | none =>
      go_enter Ydsm.func22, Ydsm.ntmps22
      go_wp2
      go_quiet (fail)
      go_wp2
      go_ret
      exact ⟨rfl, _, rfl⟩
    | some x =>
      go_enter Ydsm.func22, Ydsm.ntmps22
      go_wp2
      go_quiet (fail)
      go_wp2
      go_ret
      exact ⟨rfl, _, rfl⟩
  · obtain ⟨b, o, rfl⟩ := ha hpos
    obtain ⟨i5, hi5, _⟩ := info_parts Ydsm.info5
    have hpp := fun (wx : World) (x : Addr) => run_eql_ptr_same wx x Ydsm.underlying46 hi5
    have q1 : ((n : Int) == 0) = false := beq_eq_false_iff_ne.2 (by omega)
    have q2 : (0 : Int) < n := by omega
    clear ha
    go_enter Ydsm.func22, Ydsm.ntmps22
    go_wp2
    go_quiet (fail)
    go_wp2
    go_ret
    exact ⟨rfl, _, rfl⟩

end Go.Proofs.Ymbrds
