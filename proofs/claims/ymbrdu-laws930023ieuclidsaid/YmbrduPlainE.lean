import Derived.Test.YmbrduPlainD
namespace Go.Proofs.Ymbrdu

theorem val_upd_add (f : Nat → Nat) (m x : Nat) : ∀ n, m < n → val (upd f m (f m + x)) n = val f n + x * 10 ^ m
  | 0, h => by omega
  | n + 1, h => by
    rw [val, val]
    by_cases e : m = n
    · subst e
      rw [upd_same, val_congr (g := f) m (fun i hi => upd_other f m _ i (by omega)), Nat.add_mul]
      omega
    · rw [upd_other f m _ n (by omega), val_upd_add f m x n (by omega)]
      omega

def zf : Nat → Nat := fun _ => 0

theorem val_zf (n : Nat) : val zf n = 0 := val_zero_fn n

theorem fin_digits {f : Nat → Nat} {A N : Nat} (hv : val f N = A) (hA : A < 10 ^ N) :
    cy f zf N = 0 ∧ ∀ i, i < N → (f i + cy f zf i) % 10 = dig A i := by
  have h1 := addF_val f zf N
  rw [val_zf, hv] at h1
  have h2 : cy f zf N = 0 := by
    rcases Nat.eq_zero_or_pos (cy f zf N) with e | e
    · exact e
    · have : 1 * 10 ^ N ≤ cy f zf N * 10 ^ N := Nat.mul_le_mul_right _ e
      omega
  refine ⟨h2, fun i hi => ?_⟩
  rw [h2] at h1
  have h3 : val (addK f zf N) N = A := by omega
  have h4 := dig_val (f := addK f zf N) N (fun j hj => by unfold addK; rw [if_pos hj]; omega) i hi
  rw [h3] at h4
  rw [h4]
  unfold addK
  rw [if_pos hi]
  simp [zf, Nat.add_comm]

theorem cy_bound {f : Nat → Nat} {M : Nat} (h : ∀ i, f i ≤ M) : ∀ k, cy f zf k ≤ M
  | 0 => by simp [cy]
  | k + 1 => by
    have := cy_bound h k
    have := h k
    rw [cy]
    simp only [zf]
    omega

theorem dig_pad {n : Nat} {f : Nat → Nat} (h : Canon n f) (i : Nat) : dig (val f n) i = pad n f i := by
  by_cases hi : i < n
  · rw [pad_in f hi, dig_val n h.1 i hi]
  · rw [pad_out f hi, dig]
    have h1 := h.nd.1
    have h2 : 10 ^ n ≤ 10 ^ i := pow_le10 (by omega)
    rw [Nat.div_eq_of_lt (by omega)]

theorem euclid_len {la lq lb A Q B : Nat} (hA : ND A la) (hQ : ND Q lq) (hB : ND B lb) (h : A / B = Q) (hpos : 0 < B) : lq ≤ la ∧ la ≤ lq + lb ∧ A < 10 ^ (lq + lb) := by
  have hd := Nat.div_add_mod A B
  have hm := Nat.mod_lt A hpos
  have h1 : A < 10 ^ (lq + lb) := by
    have h2 : (Q + 1) * B ≤ 10 ^ lq * 10 ^ lb := Nat.mul_le_mul hQ.1 (Nat.le_of_lt hB.1)
    rw [Nat.pow_add]
    rw [h] at hd
    have h3 : (Q + 1) * B = B * Q + B := by rw [Nat.add_mul, Nat.mul_comm Q B, Nat.one_mul]
    omega
  refine ⟨?_, ?_, h1⟩
  · apply Classical.byContradiction
    intro hlt
    have h2 := hQ.2 (by omega)
    have h3 : 10 ^ la ≤ 10 ^ (lq - 1) := pow_le10 (by omega)
    have h4 := hA.1
    have h5 : Q ≤ A := by rw [← h]; exact Nat.div_le_self A B
    omega
  · apply Classical.byContradiction
    intro hlt
    have h2 := hA.2 (by omega)
    have h3 : 10 ^ (lq + lb) ≤ 10 ^ (la - 1) := pow_le10 (by omega)
    omega

theorem inner_step (q b i j : Nat) : q * b * 10 ^ (i + j) = q * 10 ^ i * (b * 10 ^ j) := by
  rw [Nat.pow_add]
  rw [Nat.mul_assoc, Nat.mul_assoc]
  congr 1
  rw [Nat.mul_left_comm]

theorem mul81 {x y : Nat} (hx : x ≤ 9) (hy : y ≤ 9) : x * y ≤ 81 := Nat.mul_le_mul hx hy

end Go.Proofs.Ymbrdu
