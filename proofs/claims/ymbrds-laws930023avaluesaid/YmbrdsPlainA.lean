import Derived.Test.YmbrdsPlain
namespace Go.Proofs.Ymbrds

def tl (f : Nat → Nat) : Nat → Nat
  | 0 => 0
  | n + 1 => if f n = 0 then tl f n else n + 1

theorem tl_le (f : Nat → Nat) : ∀ n, tl f n ≤ n
  | 0 => Nat.le_refl _
  | n + 1 => by
    rw [tl]
    have := tl_le f n
    split <;> omega

theorem tl_zero (f : Nat → Nat) : ∀ n i, tl f n ≤ i → i < n → f i = 0
  | 0, i, _, h => by omega
  | n + 1, i, h1, h2 => by
    rw [tl] at h1
    by_cases h : f n = 0
    · rw [if_pos h] at h1
      by_cases e : i = n
      · rw [e]; exact h
      · exact tl_zero f n i h1 (by omega)
    · rw [if_neg h] at h1
      omega

theorem tl_top (f : Nat → Nat) : ∀ n, 0 < tl f n → f (tl f n - 1) ≠ 0
  | 0, h => by simp [tl] at h
  | n + 1, h => by
    rw [tl] at h ⊢
    by_cases e : f n = 0
    · rw [if_pos e] at h ⊢
      exact tl_top f n h
    · rw [if_neg e]
      simpa using e

theorem tl_canon {f : Nat → Nat} {n : Nat} (h : ∀ i, i < n → f i ≤ 9) : Canon (tl f n) f :=
  ⟨fun i hi => h i (by have := tl_le f n; omega), tl_top f n⟩

theorem tl_val (f : Nat → Nat) (n : Nat) : val f (tl f n) = val f n := by
  obtain ⟨q, hq⟩ := Nat.exists_eq_add_of_le (tl_le f n)
  have h := val_pad f (tl f n) q (fun i h1 h2 => tl_zero f n i h1 (by omega))
  rw [← hq] at h
  exact h.symm

theorem tl_uniq {f : Nat → Nat} {n t : Nat} (ht : t ≤ n) (hz : ∀ i, t ≤ i → i < n → f i = 0) (htop : 0 < t → f (t - 1) ≠ 0) : tl f n = t := by
  have h1 := tl_le f n
  have h2 := tl_top f n
  have h3 := tl_zero f n
  by_cases a : tl f n < t
  · exact absurd (h3 (t - 1) (by omega) (by omega)) (htop (by omega))
  · by_cases b : t < tl f n
    · exact absurd (hz (tl f n - 1) (by omega) (by omega)) (h2 (by omega))
    · omega

def pad (n : Nat) (f : Nat → Nat) : Nat → Nat := fun i => if i < n then f i else 0
theorem pad_in {n i : Nat} (f : Nat → Nat) (h : i < n) : pad n f i = f i := by unfold pad; rw [if_pos h]
theorem pad_out {n i : Nat} (f : Nat → Nat) (h : ¬ i < n) : pad n f i = 0 := by unfold pad; rw [if_neg h]

def cy (A B : Nat → Nat) : Nat → Nat
  | 0 => 0
  | k + 1 => (cy A B k + A k + B k) / 10

def addK (A B : Nat → Nat) (k : Nat) : Nat → Nat := fun i => if i < k then (cy A B i + A i + B i) % 10 else 0
def addF (A B : Nat → Nat) (n : Nat) : Nat → Nat := fun i => if i < n then (cy A B i + A i + B i) % 10 else if i = n then cy A B n else 0

theorem cy_le {A B : Nat → Nat} (hA : ∀ i, A i ≤ 255) (hB : ∀ i, B i ≤ 255) : ∀ k, cy A B k ≤ 56
  | 0 => by simp [cy]
  | k + 1 => by
    have := cy_le hA hB k
    have := hA k
    have := hB k
    rw [cy]
    omega

theorem addK_step (A B : Nat → Nat) (k s : Nat) (hs : cy A B k + A k + B k = s) : upd (addK A B k) k (s % 10) = addK A B (k + 1) := by
  subst hs
  funext i
  unfold upd addK
  by_cases e : i = k
  · subst e; simp
  · rw [if_neg e]
    by_cases h2 : i < k
    · rw [if_pos h2, if_pos (by omega)]
    · rw [if_neg h2, if_neg (by omega)]

theorem addF_last (A B : Nat → Nat) (n : Nat) : upd (addK A B n) n (cy A B n) = addF A B n := by
  funext i
  unfold upd addK addF
  by_cases e : i = n
  · subst e; simp
  · rw [if_neg e]
    by_cases h2 : i < n
    · rw [if_pos h2, if_pos h2]
    · rw [if_neg h2, if_neg h2, if_neg e]

theorem addF_val (A B : Nat → Nat) : ∀ n, val (addK A B n) n + cy A B n * 10 ^ n = val A n + val B n
  | 0 => by simp [val, cy]
  | n + 1 => by
    have ih := addF_val A B n
    have e1 : val (addK A B (n + 1)) n = val (addK A B n) n := val_congr n (fun i hi => by unfold addK; rw [if_pos hi, if_pos (by omega)])
    have e2 : addK A B (n + 1) n = (cy A B n + A n + B n) % 10 := by unfold addK; rw [if_pos (by omega)]
    rw [val, val, val, e1, e2, cy, Nat.pow_succ]
    have h3 := Nat.mod_add_div (cy A B n + A n + B n) 10
    have h4 : (cy A B n + A n + B n) % 10 * 10 ^ n + (cy A B n + A n + B n) / 10 * (10 ^ n * 10) = (cy A B n + A n + B n) * 10 ^ n := by
      rw [Nat.mul_comm (10 ^ n) 10, ← Nat.mul_assoc, ← Nat.add_mul, Nat.mul_comm ((cy A B n + A n + B n) / 10) 10, h3]
    have h5 : (cy A B n + A n + B n) * 10 ^ n = cy A B n * 10 ^ n + A n * 10 ^ n + B n * 10 ^ n := by rw [Nat.add_mul, Nat.add_mul]
    omega

theorem addF_total (A B : Nat → Nat) (n : Nat) : val (addF A B n) (n + 1) = val A n + val B n := by
  rw [← addF_val A B n, val]
  have e1 : val (addF A B n) n = val (addK A B n) n := val_congr n (fun i hi => by unfold addF addK; rw [if_pos hi, if_pos hi])
  have e2 : addF A B n n = cy A B n := by unfold addF; rw [if_neg (by omega), if_pos rfl]
  rw [e1, e2]

theorem val_padded (f : Nat → Nat) {n m : Nat} (h : n ≤ m) : val (pad n f) m = val f n := by
  obtain ⟨q, rfl⟩ := Nat.exists_eq_add_of_le h
  rw [val_pad (pad n f) n q (fun i h1 _ => pad_out f (by omega))]
  exact val_congr n (fun i hi => pad_in f hi)

end Go.Proofs.Ymbrds
