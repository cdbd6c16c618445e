import Init
namespace Go.Proofs.Ymbrds

def upd (f : Nat → Nat) (i v : Nat) : Nat → Nat := fun j => if j = i then v else f j
theorem upd_same (f : Nat → Nat) (i v : Nat) : upd f i v i = v := by simp [upd]
theorem upd_other (f : Nat → Nat) (i v j : Nat) (h : j ≠ i) : upd f i v j = f j := by simp [upd, h]

def val (f : Nat → Nat) : Nat → Nat
  | 0 => 0
  | n + 1 => val f n + f n * 10 ^ n

def dig (v i : Nat) : Nat := v / 10 ^ i % 10

def ND (v n : Nat) : Prop := v < 10 ^ n ∧ (0 < n → 10 ^ (n - 1) ≤ v)

def Canon (n : Nat) (f : Nat → Nat) : Prop := (∀ i, i < n → f i ≤ 9) ∧ (0 < n → f (n - 1) ≠ 0)

def sgn (a b : Nat) : Int := if a < b then -1 else if b < a then 1 else 0

def cmpDown (f g : Nat → Nat) : Nat → Int
  | 0 => 0
  | n + 1 => if f n < g n then -1 else if g n < f n then 1 else cmpDown f g n

def cmpF (na : Nat) (f : Nat → Nat) (nb : Nat) (g : Nat → Nat) : Int :=
  if na < nb then -1 else if nb < na then 1 else cmpDown f g na

theorem pow_pos10 (n : Nat) : 0 < 10 ^ n := Nat.pow_pos (by omega)

theorem pow_le10 {a b : Nat} (h : a ≤ b) : 10 ^ a ≤ 10 ^ b := Nat.pow_le_pow_right (by omega) h

theorem val_congr {f g : Nat → Nat} : ∀ (n : Nat), (∀ i, i < n → f i = g i) → val f n = val g n
  | 0, _ => rfl
  | n + 1, h => by
    rw [val, val, val_congr n (fun i hi => h i (by omega)), h n (by omega)]

theorem val_lt {f : Nat → Nat} : ∀ (n : Nat), (∀ i, i < n → f i ≤ 9) → val f n < 10 ^ n
  | 0, _ => by simp [val]
  | n + 1, h => by
    have h1 := val_lt n (fun i hi => h i (by omega))
    have h2 : f n * 10 ^ n ≤ 9 * 10 ^ n := Nat.mul_le_mul_right _ (h n (by omega))
    rw [val, Nat.pow_succ]
    omega

theorem val_split (f : Nat → Nat) : ∀ (n m : Nat), val f (n + m) = val f n + 10 ^ n * val (fun i => f (n + i)) m
  | n, 0 => by simp [val]
  | n, m + 1 => by
    rw [Nat.add_succ, val, val_split f n m, val, Nat.mul_add, Nat.pow_add]
    rw [Nat.add_assoc]
    congr 1
    rw [Nat.mul_comm (f (n + m)), Nat.mul_comm (f (n + m)), ← Nat.mul_assoc]

theorem val_zero_fn : ∀ (n : Nat), val (fun _ => 0) n = 0
  | 0 => rfl
  | n + 1 => by rw [val, val_zero_fn n]; simp

theorem val_pad (f : Nat → Nat) (n m : Nat) (h : ∀ i, n ≤ i → i < n + m → f i = 0) : val f (n + m) = val f n := by
  rw [val_split, val_congr (g := fun _ => 0) m (fun i hi => h (n + i) (by omega) (by omega)), val_zero_fn]
  simp

theorem val_low (f : Nat → Nat) (n : Nat) : val f (n + 1) = f 0 + 10 * val (fun i => f (i + 1)) n := by
  rw [Nat.add_comm, val_split f 1 n]
  simp [val, Nat.add_comm]

theorem dig_le (v i : Nat) : dig v i ≤ 9 := by
  have : v / 10 ^ i % 10 < 10 := Nat.mod_lt _ (by omega)
  unfold dig
  omega

theorem dig_val {f : Nat → Nat} (n : Nat) (h : ∀ i, i < n → f i ≤ 9) (i : Nat) (hi : i < n) : dig (val f n) i = f i := by
  obtain ⟨m, rfl⟩ : ∃ m, n = i + (m + 1) := ⟨n - i - 1, by omega⟩
  have h1 := val_lt i (fun j hj => h j (by omega))
  rw [dig, val_split, Nat.add_mul_div_left _ _ (pow_pos10 i), Nat.div_eq_of_lt h1, Nat.zero_add, val_low]
  have := h (i + 0) (by omega)
  simp only [Nat.add_zero] at this ⊢
  omega

theorem val_dig (v : Nat) : ∀ (n : Nat), val (dig v) n = v % 10 ^ n
  | 0 => by simp [val, Nat.mod_one]
  | n + 1 => by
    rw [val, val_dig v n, dig, Nat.pow_succ, Nat.mod_mul]
    rw [Nat.mul_comm (v / 10 ^ n % 10)]

theorem ND.val {v n : Nat} (h : ND v n) : val (dig v) n = v := by
  rw [val_dig, Nat.mod_eq_of_lt h.1]

theorem ND.canon {v n : Nat} (h : ND v n) : Canon n (dig v) := by
  refine ⟨fun i _ => dig_le v i, fun hn => ?_⟩
  have h1 := h.2 hn
  have h2 := h.1
  obtain ⟨m, rfl⟩ : ∃ m, n = m + 1 := ⟨n - 1, by omega⟩
  simp only [Nat.add_sub_cancel] at h1 ⊢
  rw [Nat.pow_succ] at h2
  unfold dig
  have h3 : 1 ≤ v / 10 ^ m := (Nat.le_div_iff_mul_le (pow_pos10 m)).2 (by omega)
  have h4 : v / 10 ^ m < 10 := (Nat.div_lt_iff_lt_mul (pow_pos10 m)).2 (by omega)
  omega

theorem Canon.nd {n : Nat} {f : Nat → Nat} (h : Canon n f) : ND (val f n) n := by
  refine ⟨val_lt n h.1, fun hn => ?_⟩
  have h2 := h.2 hn
  obtain ⟨m, rfl⟩ : ∃ m, n = m + 1 := ⟨n - 1, by omega⟩
  simp only [Nat.add_sub_cancel] at h2 ⊢
  rw [Go.Proofs.Ymbrds.val]
  have : 1 * 10 ^ m ≤ f m * 10 ^ m := Nat.mul_le_mul_right _ (by omega)
  omega

theorem ND.uniq {v n m : Nat} (h : ND v n) (k : ND v m) : n = m := by
  have h1 : ∀ a b : Nat, ND v a → ND v b → ¬ a < b := by
    intro a b ha hb hab
    have h3 := hb.2 (by omega)
    have h4 : 10 ^ a ≤ 10 ^ (b - 1) := pow_le10 (by omega)
    have := ha.1
    omega
  have := h1 n m h k
  have := h1 m n k h
  omega

theorem ND.zero : ND 0 0 := ⟨by simp, fun h => by omega⟩

theorem ND.pos {v n : Nat} (h : ND v n) : 0 < v ↔ 0 < n := by
  constructor
  · intro hv
    rcases Nat.eq_zero_or_pos n with rfl | hn
    · have := h.1; simp at this; omega
    · exact hn
  · intro hn
    have h1 := h.2 hn
    have h2 := pow_pos10 (n - 1)
    omega

theorem nd_div {v k : Nat} (h1 : v / 10 ^ k = 0) (h2 : ∀ j, j < k → 0 < v / 10 ^ j) : ND v k := by
  refine ⟨(Nat.div_eq_zero_iff.1 h1).resolve_left (by have := pow_pos10 k; omega), fun hk => ?_⟩
  have h3 := h2 (k - 1) (by omega)
  have h4 := Nat.div_mul_le_self v (10 ^ (k - 1))
  have h5 : 1 * 10 ^ (k - 1) ≤ v / 10 ^ (k - 1) * 10 ^ (k - 1) := Nat.mul_le_mul_right _ h3
  omega

theorem Canon.uniq {n m : Nat} {f g : Nat → Nat} (h : Canon n f) (k : Canon m g) (e : val f n = val g m) : n = m ∧ ∀ i, i < n → f i = g i := by
  have e1 : n = m := by
    have h1 := h.nd
    rw [e] at h1
    exact h1.uniq k.nd
  subst e1
  refine ⟨rfl, fun i hi => ?_⟩
  rw [← dig_val n h.1 i hi, ← dig_val n k.1 i hi, e]

theorem cmpDown_sgn {f g : Nat → Nat} : ∀ (n : Nat), (∀ i, i < n → f i ≤ 9) → (∀ i, i < n → g i ≤ 9) → cmpDown f g n = sgn (val f n) (val g n)
  | 0, _, _ => rfl
  | n + 1, hf, hg => by
    have a1 := val_lt n (fun i hi => hf i (by omega))
    have a2 := val_lt n (fun i hi => hg i (by omega))
    have ih := cmpDown_sgn n (fun i hi => hf i (by omega)) (fun i hi => hg i (by omega))
    rw [cmpDown, val, val]
    by_cases h1 : f n < g n
    · have : (f n + 1) * 10 ^ n ≤ g n * 10 ^ n := Nat.mul_le_mul_right _ h1
      rw [Nat.add_mul] at this
      rw [if_pos h1, sgn, if_pos (by omega)]
    · rw [if_neg h1]
      by_cases h2 : g n < f n
      · have : (g n + 1) * 10 ^ n ≤ f n * 10 ^ n := Nat.mul_le_mul_right _ h2
        rw [Nat.add_mul] at this
        rw [if_pos h2, sgn, if_neg (by omega), if_pos (by omega)]
      · have e : f n = g n := by omega
        rw [if_neg h2, ih, e]
        unfold sgn
        simp only [Nat.add_lt_add_iff_right]

theorem cmpF_sgn {n m : Nat} {f g : Nat → Nat} (h : Canon n f) (k : Canon m g) : cmpF n f m g = sgn (val f n) (val g m) := by
  have a1 := h.nd
  have a2 := k.nd
  unfold cmpF
  by_cases h1 : n < m
  · have h3 := a2.2 (by omega)
    have h4 : 10 ^ n ≤ 10 ^ (m - 1) := pow_le10 (by omega)
    have := a1.1
    rw [if_pos h1, sgn, if_pos (by omega)]
  · rw [if_neg h1]
    by_cases h2 : m < n
    · have h3 := a1.2 (by omega)
      have h4 : 10 ^ m ≤ 10 ^ (n - 1) := pow_le10 (by omega)
      have := a2.1
      rw [if_pos h2, sgn, if_neg (by omega), if_pos (by omega)]
    · obtain rfl : n = m := by omega
      rw [if_neg h2]
      exact cmpDown_sgn n h.1 k.1

theorem cmpDown_congr {f g f' g' : Nat → Nat} : ∀ (n : Nat), (∀ i, i < n → f i = f' i) → (∀ i, i < n → g i = g' i) → cmpDown f g n = cmpDown f' g' n
  | 0, _, _ => rfl
  | n + 1, hf, hg => by rw [cmpDown, cmpDown, hf n (by omega), hg n (by omega), cmpDown_congr n (fun i hi => hf i (by omega)) (fun i hi => hg i (by omega))]

theorem cmpDown_three (f g : Nat → Nat) : ∀ (n : Nat), cmpDown f g n = -1 ∨ cmpDown f g n = 0 ∨ cmpDown f g n = 1
  | 0 => by simp [cmpDown]
  | n + 1 => by
    rw [cmpDown]
    have := cmpDown_three f g n
    split
    · simp
    · split
      · simp
      · exact this

theorem cmpF_three (n : Nat) (f : Nat → Nat) (m : Nat) (g : Nat → Nat) : cmpF n f m g = -1 ∨ cmpF n f m g = 0 ∨ cmpF n f m g = 1 := by
  unfold cmpF
  have := cmpDown_three f g n
  split
  · simp
  · split
    · simp
    · exact this

theorem cmpDown_swap (f g : Nat → Nat) : ∀ (n : Nat), cmpDown g f n = - cmpDown f g n
  | 0 => by simp [cmpDown]
  | n + 1 => by
    rw [cmpDown, cmpDown, cmpDown_swap f g n]
    by_cases h1 : f n < g n
    · rw [if_neg (by omega), if_pos h1, if_pos h1]; rfl
    · by_cases h2 : g n < f n
      · rw [if_pos h2, if_neg h1, if_pos h2]
      · rw [if_neg h2, if_neg h1, if_neg h1, if_neg h2]

theorem cmpF_swap (n : Nat) (f : Nat → Nat) (m : Nat) (g : Nat → Nat) : cmpF m g n f = - cmpF n f m g := by
  unfold cmpF
  by_cases h1 : n < m
  · rw [if_neg (by omega), if_pos h1, if_pos h1]; rfl
  · by_cases h2 : m < n
    · rw [if_pos h2, if_neg h1, if_pos h2]
    · obtain rfl : n = m := by omega
      simp only [Nat.lt_irrefl, if_false]
      exact cmpDown_swap f g n

theorem cmpDown_zero (f g : Nat → Nat) : ∀ (n : Nat), cmpDown f g n = 0 ↔ ∀ i, i < n → f i = g i
  | 0 => by simp [cmpDown]
  | n + 1 => by
    rw [cmpDown]
    have ih := cmpDown_zero f g n
    by_cases h1 : f n < g n
    · rw [if_pos h1]
      constructor
      · intro h; exact absurd h (by decide)
      · intro h; have := h n (by omega); omega
    · rw [if_neg h1]
      by_cases h2 : g n < f n
      · rw [if_pos h2]
        constructor
        · intro h; exact absurd h (by decide)
        · intro h; have := h n (by omega); omega
      · rw [if_neg h2, ih]
        constructor
        · intro h i hi
          by_cases hin : i = n
          · subst hin; omega
          · exact h i (by omega)
        · intro h i hi; exact h i (by omega)

theorem cmpF_zero (n : Nat) (f : Nat → Nat) (m : Nat) (g : Nat → Nat) : cmpF n f m g = 0 ↔ n = m ∧ ∀ i, i < n → f i = g i := by
  unfold cmpF
  by_cases h1 : n < m
  · rw [if_pos h1]
    constructor
    · intro h; exact absurd h (by decide)
    · intro h; omega
  · rw [if_neg h1]
    by_cases h2 : m < n
    · rw [if_pos h2]
      constructor
      · intro h; exact absurd h (by decide)
      · intro h; omega
    · rw [if_neg h2, cmpDown_zero]
      constructor
      · intro h; exact ⟨by omega, h⟩
      · intro h; exact h.2

theorem cmpDown_trans (f g h : Nat → Nat) : ∀ (n : Nat), cmpDown f g n ≤ 0 → cmpDown g h n ≤ 0 → cmpDown f h n ≤ 0 ∧ (cmpDown f h n = 0 ↔ cmpDown f g n = 0 ∧ cmpDown g h n = 0)
  | 0 => by simp [cmpDown]
  | n + 1 => by
    have ih := cmpDown_trans f g h n
    rw [cmpDown, cmpDown, cmpDown]
    intro h1 h2
    by_cases a1 : f n < g n
    · rw [if_pos a1] at h1 ⊢
      by_cases a2 : g n < h n
      · rw [if_pos a2] at h2 ⊢
        rw [if_pos (by omega)]; decide
      · rw [if_neg a2] at h2 ⊢
        by_cases a3 : h n < g n
        · rw [if_pos a3] at h2; exact absurd h2 (by decide)
        · rw [if_pos (by omega)]
          constructor
          · decide
          · constructor
            · intro e; exact absurd e (by decide)
            · intro e; exact absurd e.1 (by decide)
    · rw [if_neg a1] at h1 ⊢
      by_cases a2 : g n < f n
      · rw [if_pos a2] at h1; exact absurd h1 (by decide)
      · rw [if_neg a2] at h1 ⊢
        have e : f n = g n := by omega
        by_cases a3 : g n < h n
        · rw [if_pos a3] at h2 ⊢
          rw [if_pos (by omega)]
          constructor
          · decide
          · constructor
            · intro e; exact absurd e (by decide)
            · intro e; exact absurd e.2 (by decide)
        · rw [if_neg a3] at h2 ⊢
          by_cases a4 : h n < g n
          · rw [if_pos a4] at h2; exact absurd h2 (by decide)
          · rw [if_neg a4] at h2 ⊢
            rw [if_neg (by omega), if_neg (by omega)]
            exact ih h1 h2

theorem cmpF_trans (n : Nat) (f : Nat → Nat) (m : Nat) (g : Nat → Nat) (l : Nat) (h : Nat → Nat) (h1 : cmpF n f m g ≤ 0) (h2 : cmpF m g l h ≤ 0) :
    cmpF n f l h ≤ 0 ∧ (cmpF n f l h = 0 ↔ cmpF n f m g = 0 ∧ cmpF m g l h = 0) := by
  unfold cmpF at *
  by_cases a1 : n < m
  · rw [if_pos a1] at h1 ⊢
    by_cases a2 : m < l
    · rw [if_pos a2, if_pos (by omega)]; decide
    · rw [if_neg a2] at h2 ⊢
      by_cases a3 : l < m
      · rw [if_pos a3] at h2; exact absurd h2 (by decide)
      · rw [if_pos (by omega)]
        constructor
        · decide
        · constructor
          · intro e; exact absurd e (by decide)
          · intro e; exact absurd e.1 (by decide)
  · rw [if_neg a1] at h1 ⊢
    by_cases a2 : m < n
    · rw [if_pos a2] at h1; exact absurd h1 (by decide)
    · rw [if_neg a2] at h1 ⊢
      obtain rfl : n = m := by omega
      by_cases a3 : n < l
      · simp only [if_pos a3]
        constructor
        · decide
        · constructor
          · intro e; exact absurd e (by decide)
          · intro e; exact absurd e.2 (by decide)
      · simp only [if_neg a3] at h2 ⊢
        by_cases a4 : l < n
        · rw [if_pos a4] at h2; exact absurd h2 (by decide)
        · simp only [if_neg a4] at h2 ⊢
          exact cmpDown_trans f g h n h1 h2

def sameB (n : Nat) (f : Nat → Nat) (m : Nat) (g : Nat → Nat) : Bool := n == m && (List.range n).all (fun i => f i == g i)

theorem sameB_iff (n : Nat) (f : Nat → Nat) (m : Nat) (g : Nat → Nat) : sameB n f m g = true ↔ n = m ∧ ∀ i, i < n → f i = g i := by
  unfold sameB
  simp only [Bool.and_eq_true, List.all_eq_true, List.mem_range, beq_iff_eq]

theorem sameB_true {n : Nat} {f : Nat → Nat} {m : Nat} {g : Nat → Nat} (h : n = m ∧ ∀ i, i < n → f i = g i) : sameB n f m g = true := (sameB_iff n f m g).2 h
theorem sameB_false {n : Nat} {f : Nat → Nat} {m : Nat} {g : Nat → Nat} (h : ¬ (n = m ∧ ∀ i, i < n → f i = g i)) : sameB n f m g = false := by
  rw [← Bool.not_eq_true, sameB_iff]; exact h

theorem sameB_canon {n : Nat} {f : Nat → Nat} {m : Nat} {g : Nat → Nat} (h : Canon n f) (k : Canon m g) (e : val f n = val g m) : sameB n f m g = true :=
  sameB_true (h.uniq k e)

end Go.Proofs.Ymbrds
