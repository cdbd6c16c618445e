import Derived.Test.YmbrdsPlain
namespace Go.Proofs.Ymbrds

structure Cmp3 (C : Nat → Nat → Int) : Prop where
  swap : ∀ i j, C j i = - C i j
  trans : ∀ i j k, C i j ≤ 0 → C j k ≤ 0 → C i k ≤ 0 ∧ (C i k = 0 ↔ C i j = 0 ∧ C j k = 0)

def bef (C : Nat → Nat → Int) (i j : Nat) : Bool := decide (C i j < 0) || (decide (C i j = 0) && decide (i < j))

theorem bef_iff (C : Nat → Nat → Int) (i j : Nat) : bef C i j = true ↔ C i j < 0 ∨ (C i j = 0 ∧ i < j) := by
  unfold bef
  simp

theorem bef_anti {C : Nat → Nat → Int} (h : Cmp3 C) (i j : Nat) (hb : bef C i j = true) : bef C j i = false := by
  rw [← Bool.not_eq_true]
  intro h2
  rw [bef_iff] at hb h2
  have := h.swap i j
  omega

theorem bef_self {C : Nat → Nat → Int} (h : Cmp3 C) (i : Nat) : bef C i i = false := by
  rw [← Bool.not_eq_true]
  intro h2
  rw [bef_iff] at h2
  have := h.swap i i
  omega

def ins (L : List Nat) (j k : Nat) : List Nat := L.take j ++ k :: L.drop j

theorem ins_getD (L : List Nat) (j k p : Nat) (hj : j ≤ L.length) : (ins L j k).getD p 0 = if p < j then L.getD p 0 else if p = j then k else L.getD (p - 1) 0 := by
  unfold ins
  have e : (L.take j).length = j := by simp; omega
  by_cases h1 : p < j
  · rw [if_pos h1]
    simp only [List.getD_eq_getElem?_getD]
    rw [List.getElem?_append_left (by omega), List.getElem?_take, if_pos h1]
  · rw [if_neg h1]
    simp only [List.getD_eq_getElem?_getD]
    rw [List.getElem?_append_right (by omega), e]
    by_cases h2 : p = j
    · subst h2; simp
    · rw [if_neg h2]
      obtain ⟨q, hq⟩ : ∃ q, p - j = q + 1 := ⟨p - j - 1, by omega⟩
      rw [hq, List.getElem?_cons_succ, List.getElem?_drop, show j + q = p - 1 by omega]

theorem ins_perm {L : List Nat} {k : Nat} (j : Nat) (hp : L.Perm (List.range k)) : (ins L j k).Perm (List.range (k + 1)) := by
  unfold ins
  refine List.perm_middle.trans ?_
  rw [List.take_append_drop, List.range_succ]
  exact (List.Perm.cons k hp).trans (List.perm_append_singleton k (List.range k)).symm

theorem ins_sorted {C : Nat → Nat → Int} (h : Cmp3 C) {L : List Nat} {k : Nat} (j : Nat) (hp : L.Perm (List.range k)) (hs : L.Pairwise (fun a b => bef C a b = true)) (hj : j ≤ k)
    (hfin : 0 < j → C (L.getD (j - 1) 0) k ≤ 0) (hgt : ∀ p, j ≤ p → p < k → 0 < C (L.getD p 0) k) : (ins L j k).Pairwise (fun a b => bef C a b = true) := by
  have hlen : L.length = k := by rw [hp.length_eq]; simp
  have hlt : ∀ a, a ∈ L → a < k := fun a ha => by have := hp.mem_iff.1 ha; simpa using this
  have hs2 : (L.take j ++ L.drop j).Pairwise (fun a b => bef C a b = true) := by rw [List.take_append_drop]; exact hs
  obtain ⟨sA, sB, sAB⟩ := List.pairwise_append.1 hs2
  have toB : ∀ b, b ∈ L.drop j → bef C k b = true := by
    intro b hb
    obtain ⟨q, hq, e⟩ := List.getElem_of_mem hb
    rw [List.length_drop] at hq
    rw [List.getElem_drop] at e
    have := hgt (j + q) (by omega) (by omega)
    rw [List.getD_eq_getElem?_getD, List.getElem?_eq_getElem (by omega), Option.getD_some, e] at this
    rw [bef_iff]
    have := h.swap b k
    omega
  have toA : ∀ a, a ∈ L.take j → bef C a k = true := by
    intro a ha
    have hak := hlt a (List.mem_of_mem_take ha)
    obtain ⟨q, hq, e⟩ := List.getElem_of_mem ha
    have hq2 : q < j := by simp at hq; omega
    rw [List.getElem_take] at e
    have hz := hfin (by omega)
    rw [List.getD_eq_getElem?_getD, List.getElem?_eq_getElem (by omega), Option.getD_some] at hz
    have hle : C a L[j - 1] ≤ 0 := by
      by_cases eq : q = j - 1
      · subst eq
        rw [e]
        have := h.swap a a
        omega
      · have := (List.pairwise_iff_getElem.1 hs) q (j - 1) (by omega) (by omega) (by omega)
        rw [e, bef_iff] at this
        omega
    have := (h.trans _ _ _ hle hz).1
    rw [bef_iff]
    omega
  unfold ins
  refine List.pairwise_append.2 ⟨sA, List.pairwise_cons.2 ⟨toB, sB⟩, fun a ha b hb => ?_⟩
  rcases List.mem_cons.1 hb with rfl | hb
  · exact toA a ha
  · exact sAB a ha b hb

theorem countP_all {p : Nat → Bool} : ∀ (A : List Nat), (∀ a, a ∈ A → p a = true) → A.countP p = A.length
  | [], _ => rfl
  | a :: A, h => by
    rw [List.countP_cons_of_pos (h a (by simp)), countP_all A (fun b hb => h b (by simp [hb]))]
    simp

theorem countP_none {p : Nat → Bool} : ∀ (A : List Nat), (∀ a, a ∈ A → p a = false) → A.countP p = 0
  | [], _ => rfl
  | a :: A, h => by
    rw [List.countP_cons_of_neg (by simp [h a (by simp)]), countP_none A (fun b hb => h b (by simp [hb]))]

def rankOf (C : Nat → Nat → Int) (n i : Nat) : Nat := (List.range n).countP (fun j => bef C j i)

theorem rankOf_succ (C : Nat → Nat → Int) (k i : Nat) : rankOf C (k + 1) i = rankOf C k i + if bef C k i then 1 else 0 := by
  unfold rankOf
  rw [List.range_succ, List.countP_append, List.countP_singleton]

theorem rankOf_le (C : Nat → Nat → Int) (k i : Nat) : rankOf C k i ≤ k := by
  unfold rankOf
  have := List.countP_le_length (p := fun j => bef C j i) (l := List.range k)
  simpa using this

theorem rank_at {C : Nat → Nat → Int} (h : Cmp3 C) {L : List Nat} {n i : Nat} (hp : L.Perm (List.range n)) (hs : L.Pairwise (fun a b => bef C a b = true)) (hi : i < n) :
    rankOf C n i < n ∧ L.getD (rankOf C n i) 0 = i := by
  have hmem : i ∈ L := hp.mem_iff.2 (by simpa using hi)
  have hlen : L.length = n := by rw [hp.length_eq]; simp
  obtain ⟨A, B, rfl⟩ := List.append_of_mem hmem
  obtain ⟨_, sB, sAB⟩ := List.pairwise_append.1 hs
  have e : rankOf C n i = A.length := by
    unfold rankOf
    rw [← hp.countP_eq, List.countP_append, countP_all A (fun a ha => sAB a ha i (by simp)), countP_none]
    · rfl
    · intro b hb
      rcases List.mem_cons.1 hb with rfl | hb
      · exact bef_self h b
      · exact bef_anti h _ _ ((List.pairwise_cons.1 sB).1 b hb)
  rw [e]
  refine ⟨by simp at hlen; omega, ?_⟩
  rw [List.getD_eq_getElem?_getD, List.getElem?_append_right (Nat.le_refl _)]
  simp

theorem cmpF_cmp3 (ln : Nat → Nat) (fd : Nat → Nat → Nat) : Cmp3 (fun i j => cmpF (ln i) (fd i) (ln j) (fd j)) :=
  ⟨fun _ _ => cmpF_swap _ _ _ _, fun _ _ _ => cmpF_trans _ _ _ _ _ _⟩

end Go.Proofs.Ymbrds
