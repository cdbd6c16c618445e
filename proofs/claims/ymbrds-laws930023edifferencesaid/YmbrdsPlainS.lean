import Derived.Test.YmbrdsPlainA
namespace Go.Proofs.Ymbrds

def bw (A B : Nat → Nat) : Nat → Nat
  | 0 => 0
  | k + 1 => if A k < bw A B k + B k then 1 else 0

def subK (A B : Nat → Nat) (k : Nat) : Nat → Nat := fun i => if i < k then (if A i < bw A B i + B i then A i + 10 - (bw A B i + B i) else A i - (bw A B i + B i)) else 0

theorem bw_le (A B : Nat → Nat) : ∀ k, bw A B k ≤ 1
  | 0 => by simp [bw]
  | k + 1 => by rw [bw]; split <;> omega

theorem subK_at (A B : Nat → Nat) {k i : Nat} (h : i < k) : subK A B k i = if A i < bw A B i + B i then A i + 10 - (bw A B i + B i) else A i - (bw A B i + B i) := by
  unfold subK; rw [if_pos h]

theorem subK_step (A B : Nat → Nat) (k d : Nat) (hd : d = if A k < bw A B k + B k then A k + 10 - (bw A B k + B k) else A k - (bw A B k + B k)) : upd (subK A B k) k d = subK A B (k + 1) := by
  funext i
  unfold upd subK
  by_cases e : i = k
  · subst e
    rw [if_pos rfl, if_pos (by omega), hd]
  · rw [if_neg e]
    by_cases h2 : i < k
    · rw [if_pos h2, if_pos (show i < k + 1 by omega)]
    · rw [if_neg h2, if_neg (show ¬ i < k + 1 by omega)]

theorem subK_le {A B : Nat → Nat} {n : Nat} (hA : ∀ i, i < n → A i ≤ 9) (i : Nat) (hi : i < n) : subK A B n i ≤ 9 := by
  rw [subK_at A B hi]
  have := hA i hi
  split <;> omega

theorem subK_val {A B : Nat → Nat} : ∀ n, (∀ i, i < n → A i ≤ 9) → (∀ i, i < n → B i ≤ 9) → val A n + bw A B n * 10 ^ n = val (subK A B n) n + val B n
  | 0, _, _ => by simp [val, bw]
  | n + 1, hA, hB => by
    have ih := subK_val n (fun i hi => hA i (by omega)) (fun i hi => hB i (by omega))
    have e1 : val (subK A B (n + 1)) n = val (subK A B n) n := val_congr n (fun i hi => by rw [subK_at A B hi, subK_at A B (show i < n + 1 by omega)])
    have a9 := hA n (by omega)
    have b9 := hB n (by omega)
    have b1 := bw_le A B n
    rw [val, val, val, e1, subK_at A B (show n < n + 1 by omega), bw, Nat.pow_succ]
    by_cases h : A n < bw A B n + B n
    · rw [if_pos h, if_pos h]
      have h3 : (A n + 10 - (bw A B n + B n)) * 10 ^ n + bw A B n * 10 ^ n + B n * 10 ^ n = A n * 10 ^ n + 10 * 10 ^ n := by
        rw [← Nat.add_mul, ← Nat.add_mul, ← Nat.add_mul]
        congr 1
        omega
      omega
    · rw [if_neg h, if_neg h]
      have h3 : (A n - (bw A B n + B n)) * 10 ^ n + bw A B n * 10 ^ n + B n * 10 ^ n = A n * 10 ^ n := by
        rw [← Nat.add_mul, ← Nat.add_mul]
        congr 1
        omega
      omega

theorem sub_val {A B : Nat → Nat} {n : Nat} (hA : ∀ i, i < n → A i ≤ 9) (hB : ∀ i, i < n → B i ≤ 9) (h : val B n ≤ val A n) : val (subK A B n) n = val A n - val B n := by
  have h1 := subK_val n hA hB
  have h2 := val_lt n (fun i hi => subK_le (A := A) (B := B) hA i hi)
  have h3 := bw_le A B n
  have h4 : bw A B n = 0 := by
    rcases Nat.eq_zero_or_pos (bw A B n) with e | e
    · exact e
    · have e1 : bw A B n = 1 := by omega
      rw [e1] at h1
      omega
  rw [h4] at h1
  omega

theorem len_le_of_val {n m : Nat} {f g : Nat → Nat} (hf : Canon n f) (hg : Canon m g) (h : val g m ≤ val f n) : m ≤ n := by
  apply Classical.byContradiction
  intro hlt
  have h1 := hf.nd.1
  have h2 := hg.nd.2 (by omega)
  have h3 : 10 ^ n ≤ 10 ^ (m - 1) := pow_le10 (by omega)
  omega

theorem pad_digits {n : Nat} {f : Nat → Nat} (hf : ∀ i, i < n → f i ≤ 9) (i : Nat) : pad n f i ≤ 9 := by
  unfold pad
  by_cases h : i < n
  · rw [if_pos h]; exact hf i h
  · rw [if_neg h]; omega

end Go.Proofs.Ymbrds
