import Derived.Test.YmbrdtSub
import Derived.Test.YmbrdtESame
import Derived.WalkSpells
namespace Go.Proofs.Ymbrdt
open Go.RowKit

set_option maxHeartbeats 400000 in
theorem law_EUint (w : World) (x0 : Nat) (h0 : x0 ≤ 18446744073709551615) (x1 : Nat) (h1 : x1 ≤ 18446744073709551615) :
    Calls Ydtm.prog 4 #[.int .u64 (x0 : Int), .int .u64 (x1 : Int)] w fun e w' => e = .returned (.bool true) ∧ Below w.heap.size w w' := by
  have hnl := fun (wx : World) (a : Option Addr) (n c : Nat) => Lib.run_eql_slice_nil (P := Ydtm.prog) wx 23 5 a n c 0 0 Ydtm.underlying23
  go_enter Ydtm.func4, Ydtm.ntmps4
  go_wp2_with fail
  refine (fromUint64_any x0 h0 _).mono ?_
  rintro e w1 ⟨a, n, c, rfl, ho, hb⟩
  go_wp2_with fail
  refine (fromUint64_any x1 h1 _).mono ?_
  rintro e w2 ⟨a', n', c', rfl, ho', hb'⟩
  have n20 := ho.2.1
  have n20' := ho'.2.1
  have hr := ho.reads.later hb'
  have hr' := ho'.reads
  have hv := mkHid ho.1.val
  have hv' := mkHid ho'.1.val
  have hcn := mkHid ho.1.canon
  have hcn' := mkHid ho'.1.canon
  have hc := below_size hb hb'
  clear ho ho' hb hb'
  by_cases hlt : x0 < x1
  · go_wp2_with fail
    refine (sub_lt _ _ _ _ _ _ (dig x0) (dig x1) _ (by omega) (by omega) hr hr' hcn.out hcn'.out (by rw [hv.out, hv'.out]; exact hlt)).mono ?_
    rintro e w3 ⟨rfl, hb3⟩
    have hc3 := below_size hc hb3
    clear hr hr' hb3 hc
    have tl0 : (x0 : Int) < x1 := by omega
    go_wp2
    go_ret
    exact ⟨rfl, hc3⟩
  · go_wp2_with fail
    refine (sub_ge _ _ _ _ _ _ (dig x0) (dig x1) _ (by omega) (by omega) hr hr' hcn.out hcn'.out (by rw [hv.out, hv'.out]; omega)).mono ?_
    rintro e w3 ⟨b, t, h, rfl, hbge, htn, hct, hvt, ho3, hb3⟩
    have hc3 := below_size hc hb3
    have HT := mkHid hct
    have HV : Hid (val h t = x0 - x1) := by show _ = _; rw [hvt, hv.out, hv'.out]
    clear hr hr' hb3 hc hct hvt
    have tl0 : ¬ (x0 : Int) < x1 := by omega
    go_wp2_with fail
    rw [show (x0 : Int) - (x1 : Int) = ((x0 - x1 : Nat) : Int) by omega]
    refine (fromUint64_any (x0 - x1) (by omega) _).mono ?_
    rintro e w4 ⟨a4, n4, c4, rfl, ho4, hb4⟩
    have n24 := ho4.2.1
    have ho5 := ho3.later hb4
    have hc4 := below_size hc3 hb4
    go_wp2_with fail
    refine (esame_any _ _ _ _ _ _ h (dig (x0 - x1)) _ (by omega) (by omega) ho5.reads ho4.reads).mono ?_
    rintro e w5 ⟨rfl, hb5⟩
    have hc5 := below_size hc4 hb5
    rw [sameB_canon HT.out ho4.1.canon (by rw [HV.out, ho4.1.val])]
    clear ho3 ho4 ho5 hb4 hb5 hc3 hc4 HT HV
    go_wp2
    go_ret
    exact ⟨rfl, hc5⟩

end Go.Proofs.Ymbrdt
