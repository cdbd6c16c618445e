import Derived.Test.YmbrduPlainS
namespace Go.Proofs.Ymbrdu

theorem dm_top (A i : Nat) : A / 10 ^ i = 10 * (A / 10 ^ (i + 1)) + dig A i := by
  rw [Nat.pow_succ, ← Nat.div_div_eq_div_mul, dig]
  omega

theorem dm_split (T B d : Nat) (hB : 0 < B) : (10 * T + d) / B = 10 * (T / B) + (10 * (T % B) + d) / B ∧ (10 * T + d) % B = (10 * (T % B) + d) % B := by
  have e : 10 * T + d = (10 * (T % B) + d) + B * (10 * (T / B)) := by
    have h := Nat.mod_add_div T B
    have h2 : B * (10 * (T / B)) = 10 * (B * (T / B)) := by rw [← Nat.mul_assoc, Nat.mul_comm B 10, Nat.mul_assoc]
    omega
  constructor
  · rw [e, Nat.add_mul_div_left _ _ hB]
    omega
  · rw [e, Nat.add_mul_mod_self_left]

theorem dm_small (T B d : Nat) (hB : 0 < B) (hd : d ≤ 9) : (10 * (T % B) + d) / B ≤ 9 := by
  have h := Nat.mod_lt T hB
  have h2 : (10 * (T % B) + d) / B < 10 := (Nat.div_lt_iff_lt_mul hB).2 (by omega)
  omega

theorem dm_digit (A B i : Nat) (hB : 0 < B) : dig (A / B) i = (10 * (A / 10 ^ (i + 1) % B) + dig A i) / B := by
  have h1 := (dm_split (A / 10 ^ (i + 1)) B (dig A i) hB).1
  have h2 := dm_small (A / 10 ^ (i + 1)) B (dig A i) hB (dig_le A i)
  have h3 : dig (A / B) i = (A / 10 ^ i / B) % 10 := by
    rw [dig, Nat.div_div_eq_div_mul, Nat.div_div_eq_div_mul, Nat.mul_comm]
  rw [h3, dm_top, h1]
  generalize (10 * (A / 10 ^ (i + 1) % B) + dig A i) / B = q at *
  generalize A / 10 ^ (i + 1) / B = p at *
  omega

theorem dm_rem (A B i : Nat) (hB : 0 < B) : A / 10 ^ i % B = (10 * (A / 10 ^ (i + 1) % B) + dig A i) % B := by
  rw [dm_top A i]
  exact (dm_split (A / 10 ^ (i + 1)) B (dig A i) hB).2

theorem dm_end {R B j v : Nat} (h : v + j * B = R) (hlt : v < B) : j = R / B ∧ v = R % B := by
  subst h
  have hB : 0 < B := by omega
  rw [Nat.add_mul_div_right _ _ hB, Nat.div_eq_of_lt hlt, Nat.add_mul_mod_self_right, Nat.mod_eq_of_lt hlt]
  omega

theorem dm_next {R B j v : Nat} (h : v + j * B = R) (hge : B ≤ v) : (v - B) + (j + 1) * B = R := by
  rw [Nat.add_mul]
  omega

theorem dm_j {R B j v T d : Nat} (h : v + j * B = R) (hge : B ≤ v) (hR : R = 10 * (T % B) + d) (hd : d ≤ 9) (hB : 0 < B) : j + 1 ≤ 9 := by
  have h1 := Nat.mod_lt T hB
  have h2 : (j + 1) * B ≤ R := by rw [Nat.add_mul]; omega
  have h3 : (j + 1) * B < 10 * B := by omega
  have := Nat.lt_of_mul_lt_mul_right h3
  omega

theorem canon_len {n m : Nat} {f g : Nat → Nat} (hf : Canon n f) (hg : Canon m g) (h : val f n ≤ val g m) : n ≤ m := len_le_of_val hg hf h

theorem dm_quo (A B n : Nat) (h : A < 10 ^ n) : val (dig (A / B)) n = A / B := by
  rw [val_dig, Nat.mod_eq_of_lt (Nat.lt_of_le_of_lt (Nat.div_le_self A B) h)]

end Go.Proofs.Ymbrdu
