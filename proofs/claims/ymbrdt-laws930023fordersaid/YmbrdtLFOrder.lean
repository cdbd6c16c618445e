import Derived.Test.YmbrdtFCmp
import Derived.Test.YmbrdtFu
namespace Go.Proofs.Ymbrdt
open Go.RowKit

theorem cmpF_digs {u v n m : Nat} (h : ND u n) (k : ND v m) : cmpF n (dig u) m (dig v) = sgn u v := by
  rw [cmpF_sgn h.canon k.canon, h.val, k.val]

set_option maxHeartbeats 400000 in
theorem forder_at (w : World) (x0 : Nat) (h0 : x0 ≤ 18446744073709551615) (x1 : Nat) (h1 : x1 ≤ 18446744073709551615) (s : Int) (hs : Hid (sgn x0 x1 = s))
    (ht : (x0 < x1 ∧ s = -1) ∨ (¬ x0 < x1 ∧ x1 < x0 ∧ s = 1) ∨ (¬ x0 < x1 ∧ ¬ x1 < x0 ∧ s = 0)) :
    Calls Ydtm.prog 7 #[.int .u64 (x0 : Int), .int .u64 (x1 : Int)] w fun e w' => e = .returned (.bool true) ∧ Below w.heap.size w w' := by
  rcases ht with ⟨t1, rfl⟩ | ⟨t1, t2, rfl⟩ | ⟨t1, t2, rfl⟩
  all_goals
    go_enter Ydtm.func7, Ydtm.ntmps7
    go_wp2_with fail
    refine (fromUint64_any x0 h0 _).mono ?_
    rintro e w1 ⟨a, n, c, rfl, ho, hb⟩
    go_wp2_with fail
    refine (fromUint64_any x1 h1 _).mono ?_
    rintro e w2 ⟨a', n', c', rfl, ho', hb'⟩
    go_wp2_with fail
    refine (fcmp_any _ _ _ _ _ _ (dig x0) (dig x1) _ (by have := ho.2.1; omega) (by have := ho'.2.1; omega) (ho.reads.later hb') ho'.reads).mono ?_
    rintro e w3 ⟨rfl, hb3⟩
    rw [cmpF_digs ho.1 ho'.1, hs.out]
    have hc := below_size (below_size hb hb') hb3
    clear ho ho' hb hb' hb3 hs
    go_wp2
    go_ret
    exact ⟨rfl, hc⟩

theorem law_FOrder (w : World) (x0 : Nat) (h0 : x0 ≤ 18446744073709551615) (x1 : Nat) (h1 : x1 ≤ 18446744073709551615) :
    Calls Ydtm.prog 7 #[.int .u64 (x0 : Int), .int .u64 (x1 : Int)] w fun e w' => e = .returned (.bool true) ∧ Below w.heap.size w w' := by
  refine forder_at w x0 h0 x1 h1 (sgn x0 x1) rfl ?_
  unfold sgn
  by_cases t1 : x0 < x1
  · simp [t1]
  · by_cases t2 : x1 < x0 <;> simp [t1, t2]

end Go.Proofs.Ymbrdt
