import Derived.Test.YmbrdtDiv
import Derived.Test.YmbrdtFu
import Derived.Test.YmbrdtIIs
import Derived.WalkSpells
namespace Go.Proofs.Ymbrdt
open Go.RowKit

set_option maxHeartbeats 400000 in
theorem law_IMachine (w : World) (x0 : Nat) (h0 : x0 ≤ 18446744073709551615) (x1 : Nat) (h1 : x1 ≤ 18446744073709551615) :
    Calls Ydtm.prog 14 #[.int .u64 (x0 : Int), .int .u64 (x1 : Int)] w fun e w' => e = .returned (.bool true) ∧ Below w.heap.size w w' := by
  have hnl := fun (wx : World) (a : Option Addr) (n c : Nat) => Lib.run_eql_slice_nil (P := Ydtm.prog) wx 23 5 a n c 0 0 Ydtm.underlying23
  go_enter Ydtm.func14, Ydtm.ntmps14
  go_wp2_with fail
  refine (fromUint64_any x0 (by omega) _).mono ?_
  rintro e w1 ⟨a, n, c, rfl, ho, hb⟩
  go_wp2_with fail
  refine (fromUint64_any x1 (by omega) _).mono ?_
  rintro e w2 ⟨a', n', c', rfl, ho', hb'⟩
  have n20 := ho.2.1
  have n20' := ho'.2.1
  have hc2 := below_size hb hb'
  by_cases hp : 0 < n'
  · have hx1 : 0 < x1 := ho'.1.pos.2 hp
    obtain ⟨q, hq⟩ : ∃ q, x0 / x1 = q := ⟨_, rfl⟩
    obtain ⟨r, hr⟩ : ∃ r, x0 % x1 = r := ⟨_, rfl⟩
    have hq1 : q ≤ 18446744073709551615 := by rw [← hq]; exact Nat.le_trans (Nat.div_le_self _ _) h0
    have hr1 : r ≤ 18446744073709551615 := by rw [← hr]; exact Nat.le_trans (Nat.mod_le _ _) h0
    have t0 : ((x1 : Int) == 0) = false := beq_eq_false_iff_ne.2 (by omega)
    go_wp2_with fail
    refine (divmod_yes _ _ _ _ _ _ (dig x0) (dig x1) _ (by omega) (by omega) (ho.reads.later hb') ho'.reads hp ho.1.canon ho'.1.canon x0 x1 ho.1.val ho'.1.val).mono ?_
    rintro e w5 ⟨bq, tq, ar, nr, cr, fq, fr, rfl, htq, hnr, cq, vq, rq, cr', vr, rr, hb5⟩
    rw [hq] at vq
    rw [hr] at vr
    have Eq' : (x0 : Int) / (x1 : Int) = (q : Int) := by rw [← hq]; rfl
    have Er' : (x0 : Int) % (x1 : Int) = (r : Int) := by rw [← hr]; rfl
    have hc5 := below_size hc2 hb5
    clear ho ho' hb hb' hc2 hb5 hq hr
    have CQ := mkHid cq
    have CR := mkHid cr'
    have VQ := mkHid vq
    have VR := mkHid vr
    clear cq cr' vq vr
    go_wp2_with fail
    refine (iis_true _ _ _ fq _ q (by omega) hq1 rq CQ.out VQ.out).mono ?_
    rintro e w6 ⟨rfl, hb6⟩
    replace rr := rr.later hb6
    have hc6 := below_size hc5 hb6
    go_wp2_with fail
    refine (iis_true _ _ _ fr _ r (by omega) hr1 rr CR.out VR.out).mono ?_
    rintro e w7 ⟨rfl, hb7⟩
    have hc7 := below_size hc6 hb7
    clear rq rr hb6 hb7 hc5 hc6
    go_wp2
    go_ret
    exact ⟨rfl, hc7⟩
  · obtain rfl : x1 = 0 := Nat.eq_zero_of_not_pos (fun h => hp (ho'.1.pos.1 h))
    go_wp2_with fail
    refine (divmod_no _ _ _ _ _ _ (dig x0) (dig 0) _ (by omega) (by omega) (ho.reads.later hb') ho'.reads (fun h => hp h.1)).mono ?_
    rintro e w5 ⟨rfl, hb5⟩
    have hc5 := below_size hc2 hb5
    clear ho ho' hb hb' hc2 hb5
    go_wp2
    go_ret
    exact ⟨rfl, hc5⟩

end Go.Proofs.Ymbrdt
