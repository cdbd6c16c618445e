import Derived.Test.YmbrdtAdd
import Derived.Test.YmbrdtHEq
namespace Go.Proofs.Ymbrdt
open Go.RowKit

theorem add_digs {u v n m : Nat} (hu : ND u n) (hv : ND v m) : Canon (tl (addF (pad n (dig u)) (pad m (dig v)) (max n m)) (max n m + 1)) (addF (pad n (dig u)) (pad m (dig v)) (max n m)) ∧
    val (addF (pad n (dig u)) (pad m (dig v)) (max n m)) (tl (addF (pad n (dig u)) (pad m (dig v)) (max n m)) (max n m + 1)) = u + v := by
  have hA : ∀ i, pad n (dig u) i ≤ 9 := fun i => by unfold pad; have := dig_le u i; split <;> omega
  have hB : ∀ i, pad m (dig v) i ≤ 9 := fun i => by unfold pad; have := dig_le v i; split <;> omega
  have hc : ∀ k, cy (pad n (dig u)) (pad m (dig v)) k ≤ 1 := by
    intro k
    induction k with
    | zero => simp [cy]
    | succ k ih =>
      have := hA k
      have := hB k
      rw [cy]
      omega
  refine ⟨tl_canon fun i hi => ?_, ?_⟩
  · unfold addF
    have := hc (max n m)
    split
    · omega
    · split <;> omega
  · rw [tl_val, addF_total, val_padded _ (Nat.le_max_left n m), val_padded _ (Nat.le_max_right n m), hu.val, hv.val]

set_option maxHeartbeats 400000 in
theorem law_HMachine (w : World) (x0 : Nat) (h0 : x0 ≤ 18446744073709551615) (x1 : Nat) (h1 : x1 ≤ 18446744073709551615) :
    Calls Ydtm.prog 12 #[.int .u64 (x0 : Int), .int .u64 (x1 : Int)] w fun e w' => e = .returned (.bool true) ∧ Below w.heap.size w w' := by
  obtain ⟨u, hu⟩ : ∃ u, x0 / 2 = u := ⟨_, rfl⟩
  obtain ⟨v, hv⟩ : ∃ v, x1 / 2 = v := ⟨_, rfl⟩
  have Eu : (x0 : Int) / 2 = (u : Int) := by omega
  have Ev : (x1 : Int) / 2 = (v : Int) := by omega
  have hu2 : u ≤ 9223372036854775807 := by omega
  have hv2 : v ≤ 9223372036854775807 := by omega
  clear hu hv
  go_enter Ydtm.func12, Ydtm.ntmps12
  go_wp2_with fail
  refine (fromUint64_any u (by omega) _).mono ?_
  rintro e w1 ⟨a, n, c, rfl, ho, hb⟩
  go_wp2_with fail
  refine (fromUint64_any v (by omega) _).mono ?_
  rintro e w2 ⟨a', n', c', rfl, ho', hb'⟩
  have n20 := ho.2.1
  have n20' := ho'.2.1
  go_wp2_with fail
  refine (add_any _ _ _ _ _ _ (max n n') (dig u) (dig v) _ (by omega) (by omega) rfl (ho.reads.later hb') ho'.reads (fun j => by have := dig_le u j; omega) (fun j => by have := dig_le v j; omega)).mono ?_
  rintro e w3 ⟨b, rfl, hb3, ho3, hb4⟩
  have hsum := mkHid (add_digs ho.1 ho'.1)
  have hlt := tl_le (addF (pad n (dig u)) (pad n' (dig v)) (max n n')) (max n n' + 1)
  have hmx : max n n' ≤ 20 := by omega
  have hc := below_size (below_size hb hb') hb4
  generalize addF (pad n (dig u)) (pad n' (dig v)) (max n n') = F at *
  generalize tl F (max n n' + 1) = t at *
  clear ho ho' hb hb' hb4 hb3
  go_wp2_with fail
  rw [show (u : Int) + (v : Int) = ((u + v : Nat) : Int) by omega]
  refine (fromUint64_any (u + v) (by omega) _).mono ?_
  rintro e w4 ⟨a4, n4, c4, rfl, ho4, hb5⟩
  have n24 := ho4.2.1
  have ho5 := ho3.later hb5
  have hc5 := below_size hc hb5
  go_wp2_with fail
  refine (heq_any _ _ _ _ _ _ F (dig (u + v)) _ (by omega) (by omega) ho5.reads ho4.reads).mono ?_
  rintro e w5 ⟨rfl, hb6⟩
  have hc6 := below_size hc5 hb6
  rw [sameB_canon hsum.out.1 ho4.1.canon (by rw [hsum.out.2, ho4.1.val])]
  clear ho3 ho4 ho5 hb5 hc hc5 hb6 hsum
  go_wp2
  go_ret
  exact ⟨rfl, hc6⟩

end Go.Proofs.Ymbrdt
