import Derived.Test.YmbrdtAdd
namespace Go.Proofs.Ymbrdt
open Go.RowKit

theorem hat_any (a0 : Option Addr) (n0 c0 i : Nat) (f : Nat → Nat) (w : World) (hf : Reads w a0 n0 f) (f8 : f i ≤ 255) :
    Calls Ydtm.prog 25 #[.slice a0 n0 c0, .int .i64 (i : Int)] w fun e w' => e = .returned (.int .i64 (pad n0 f i : Int)) ∧ Below w.heap.size w w' := by
  obtain ⟨ba, oa, ha, hA⟩ := hf
  unfold pad
  by_cases h : i < n0
  · obtain ⟨rfl, hba⟩ := ha (by omega)
    have ga := hA i h
    have t : (i : Int) < n0 := by omega
    rw [if_pos h]
    clear hA ha
    go_enter Ydtm.func25, Ydtm.ntmps25
    go_wp2
    go_ret
    exact ⟨rfl, Below.refl _ _⟩
  · rw [if_neg h]
    have t : ¬ (i : Int) < n0 := by omega
    clear hA ha
    go_enter Ydtm.func25, Ydtm.ntmps25
    go_wp2
    go_ret
    exact ⟨rfl, Below.refl _ _⟩

def accOf (P Q : Nat → Nat) (n k : Nat) : Nat := if k = n + 1 then 0 else cy P Q k

theorem accOf_step {P Q : Nat → Nat} {n i : Nat} (hi : i ≤ n) (hP : P n = 0) (hQ : Q n = 0) :
    10 * (accOf P Q n (i + 1) : Int) + (addF P Q n i : Int) - (P i : Int) - (Q i : Int) = (accOf P Q n i : Int) := by
  unfold accOf addF
  by_cases h : i = n
  · subst h
    simp [hP, hQ]
  · simp only [show ¬ (i + 1 = n + 1) by omega, show ¬ (i = n + 1) by omega, show i < n by omega, if_true, if_false]
    rw [cy]
    omega

theorem cy_digits {P Q : Nat → Nat} : ∀ {k : Nat}, (∀ j, j < k → P j ≤ 9 ∧ Q j ≤ 9) → cy P Q k ≤ 1
  | 0, _ => by simp [cy]
  | k + 1, h => by
    have := cy_digits (k := k) (fun j hj => h j (by omega))
    have := h k (by omega)
    rw [cy]
    omega

theorem pad_tl {R : Nat → Nat} {n i : Nat} (hi : i < n) : pad (tl R n) R i = R i := by
  by_cases h : i < tl R n
  · exact pad_in R h
  · rw [pad_out R h, tl_zero R n i (by omega) hi]

set_option maxHeartbeats 2000000 in
theorem law_HValue (w : World) (a0 : Option Addr) (n0 c0 : Nat) (f0 : Nat → Nat) (r0 : Reads w a0 n0 f0) (b0 : ∀ j, f0 j ≤ 255) (_l0 : n0 ≤ c0) (_m0 : c0 ≤ 9223372036854775807)
    (a1 : Option Addr) (n1 c1 : Nat) (f1 : Nat → Nat) (r1 : Reads w a1 n1 f1) (b1 : ∀ j, f1 j ≤ 255) (_l1 : n1 ≤ c1) (_m1 : c1 ≤ 9223372036854775807) :
    Calls Ydtm.prog 11 #[.slice a0 n0 c0, .slice a1 n1 c1] w fun e w' => e = .returned (.bool true) ∧ Below w.heap.size w w' := by
  by_cases h0 : 1024 < n0
  · go_enter Ydtm.func11, Ydtm.ntmps11
    go_wp2
    go_ret
    exact ⟨rfl, Below.refl _ _⟩
  by_cases h1 : 1024 < n1
  · go_enter Ydtm.func11, Ydtm.ntmps11
    go_wp2
    go_ret
    exact ⟨rfl, Below.refl _ _⟩
  obtain ⟨n, hn⟩ : ∃ n, n = max n0 n1 := ⟨_, rfl⟩
  have hn1024 : n ≤ 1024 ∧ n0 ≤ n ∧ n1 ≤ n := by omega
  obtain ⟨hn1024, hn0n, hn1n⟩ := hn1024
  have ncase : (n0 < n1 ∧ (n1 : Int) = (n : Int)) ∨ (¬ n0 < n1 ∧ (n0 : Int) = (n : Int)) := by omega
  obtain ⟨P, hP⟩ : ∃ P, pad n0 f0 = P := ⟨_, rfl⟩
  obtain ⟨Q, hQ⟩ : ∃ Q, pad n1 f1 = Q := ⟨_, rfl⟩
  have P8 : ∀ i, P i ≤ 255 := fun i => by rw [← hP]; unfold pad; split; exact b0 i; omega
  have Q8 : ∀ i, Q i ≤ 255 := fun i => by rw [← hQ]; unfold pad; split; exact b1 i; omega
  have CY := mkHid (cy_le P8 Q8)
  have PN : Hid (P n = 0) := by show _ = _; rw [← hP]; exact pad_out f0 (by omega)
  have QN : Hid (Q n = 0) := by show _ = _; rw [← hQ]; exact pad_out f1 (by omega)
  have HN := mkHid hn
  have HP := mkHid hP
  have HQ := mkHid hQ
  have HP8 := mkHid P8
  have HQ8 := mkHid Q8
  have HR0 := mkHid r0
  have HR1 := mkHid r1
  have HB0 := mkHid b0
  have HB1 := mkHid b1
  clear hn hP hQ P8 Q8 r0 r1 b0 b1
  have ncase' : ((n1 : Int) = (n : Int) ∧ decide ((n0 : Int) < (n : Int)) = true ∧ decide (n0 < n) = true) ∨ ((n0 : Int) = (n : Int) ∧ decide ((n : Int) < (n1 : Int)) = false ∧ decide (n < n1) = false) := by
    rcases ncase with ⟨h2, h3⟩ | ⟨h2, h3⟩
    · exact .inl ⟨h3, by simp; omega, by simp; omega⟩
    · exact .inr ⟨h3, by simp; omega, by simp; omega⟩
  clear ncase
  rcases ncase' with ⟨En, t01, t02⟩ | ⟨En, t01, t02⟩
  all_goals
    go_enter Ydtm.func11, Ydtm.ntmps11
    go_wp2_with fail
    refine (add_any _ _ _ _ _ _ n f0 f1 _ (by omega) (by omega) HN.out HR0.out HR1.out HB0.out HB1.out).mono ?_
    rw [HP.out, HQ.out]
    rintro e w1 ⟨b, rfl, hbge, hown, hb1⟩
    have r0' := mkHid (HR0.out.later hb1)
    have r1' := mkHid (HR1.out.later hb1)
    clear HR0 HR1
    obtain ⟨R, hR⟩ : ∃ R, addF P Q n = R := ⟨_, rfl⟩
    have R56 : Hid (∀ i, R i ≤ 56) := fun i => by
      rw [← hR]
      have := CY.out n
      unfold addF
      split
      · omega
      · split <;> omega
    have R9 : Hid (∀ i, i < n → R i ≤ 9) := fun i hi => by
      rw [← hR]
      unfold addF
      rw [if_pos hi]
      omega
    have Rn : Hid (R n = cy P Q n) := by
      show _ = _
      rw [← hR]
      unfold addF
      rw [if_neg (by omega), if_pos rfl]
    have Rs : Hid (∀ i, i ≤ n → 10 * (accOf P Q n (i + 1) : Int) + (R i : Int) - (P i : Int) - (Q i : Int) = (accOf P Q n i : Int)) := fun i hi => by
      rw [← hR]
      exact accOf_step hi PN.out QN.out
    have A56 : Hid (∀ i, accOf P Q n i ≤ 56) := fun i => by
      unfold accOf
      have := CY.out i
      split <;> omega
    rw [hR] at hown ⊢
    clear hR
    obtain ⟨t, ht⟩ : ∃ t, tl R (n + 1) = t := ⟨_, rfl⟩
    have htn : t ≤ n + 1 := by rw [← ht]; exact tl_le _ _
    have htop : Hid (0 < t → R (t - 1) ≠ 0) := by show _ → _; rw [← ht]; exact tl_top _ _
    have hpad : Hid (∀ i, i ≤ n → pad t R i = R i) := fun i hi => by rw [← ht]; exact pad_tl (by omega)
    rw [ht] at hown ⊢
    clear ht
    have hr : Hid (Reads w1 (some ⟨b, 0, none⟩) t R) := hown.reads
    have topcase : (t = 0) ∨ (∃ s, t = s + 1 ∧ decide (n < s) = false ∧ ((R s : Int) == 0) = false ∧ w1.cell? ⟨b, s, none⟩ = some (.int .u8 (R s : Int))) := by
      rcases Nat.eq_zero_or_pos t with e | e
      · exact .inl e
      · refine .inr ⟨t - 1, by omega, by simp; omega, beq_eq_false_iff_ne.2 (by have := htop.out e; omega), hown.cell (t - 1) (by omega)⟩
    clear htop hown
    have q0 : ¬ (n : Int) + 1 < (t : Int) := by omega
    rcases topcase with rfl | ⟨s, rfl, qn, qs, cs⟩
    all_goals
      go_wp2
      go_loopw [7, 8] (fun sv i wr => ∃ (k : Nat) (vb : Bool), k ≤ n ∧ i = .int .i64 (k : Int) ∧ sv = .bool vb ∧ Hid (vb = true → ∀ j, j < k → P j ≤ 9 ∧ Q j ≤ 9) ∧ Below w1.heap.size w1 wr) (fun _ i _ => n - (intOf i).toNat)
      case atStart => exact ⟨0, true, by omega, rfl, rfl, (show _ → _ from fun _ j hj => by omega), Below.refl _ _⟩
      case round =>
        obtain ⟨k, vb, hk, rfl, rfl, hv, hnx⟩ := hrel
        by_cases hlt : k < n
        · have tk : (k : Int) < n := by omega
          have r9 := R9.out k hlt
          have hpk := mkHid (hpad.out k (by omega))
          have p255 := HP8.out k
          have q255 := HQ8.out k
          have r56 := R56.out k
          go_wp2_with fail
          refine (hat_any _ _ _ k f0 _ (r0'.out.later hnx) (HB0.out k)).mono ?_
          rw [HP.out]
          rintro e w2 ⟨rfl, hb2⟩
          have hx2 := below_size hnx hb2
          clear hb2
          by_cases hp9 : 9 < P k
          · have tp : decide ((9 : Int) < (P k : Int)) = true := by simp; omega
            have hv' : Hid (false = true → ∀ j, j < k + 1 → P j ≤ 9 ∧ Q j ≤ 9) := fun h => by cases h
            go_wp2_with fail
            refine (hat_any _ _ _ k R _ (hr.out.later hx2) (by omega)).mono ?_
            rw [hpk.out]
            rintro e w4 ⟨rfl, hb4⟩
            have hx4 := below_size hx2 hb4
            go_wp2
            go_roundw
            case rel => exact ⟨k + 1, false, by omega, by go_num, rfl, hv', hx4⟩
            case measure => simp [intOf]; omega
          · have tp : decide ((9 : Int) < (P k : Int)) = false := by simp; omega
            go_wp2_with fail
            refine (hat_any _ _ _ k f1 _ (r1'.out.later hx2) (HB1.out k)).mono ?_
            rw [HQ.out]
            rintro e w3 ⟨rfl, hb3⟩
            have hx3 := below_size hx2 hb3
            clear hb3 hx2
            obtain ⟨qb, tq, hqb⟩ : ∃ qb : Bool, decide ((9 : Int) < (Q k : Int)) = qb ∧ (qb = false → Q k ≤ 9) := ⟨_, rfl, fun h => by simp at h; omega⟩
            have hv' : Hid ((vb && !qb) = true → ∀ j, j < k + 1 → P j ≤ 9 ∧ Q j ≤ 9) := fun h j hj => by
              rw [Bool.and_eq_true, Bool.not_eq_true'] at h
              have := hqb h.2
              by_cases e : j = k
              · rw [e]; omega
              · exact hv.out h.1 j (by omega)
            clear hqb
            cases qb
            · go_wp2_with fail
              refine (hat_any _ _ _ k R _ (hr.out.later hx3) (by omega)).mono ?_
              rw [hpk.out]
              rintro e w4 ⟨rfl, hb4⟩
              have hx4 := below_size hx3 hb4
              go_wp2
              go_roundw
              case rel => exact ⟨k + 1, vb, by omega, by go_num, rfl, by simpa using hv', hx4⟩
              case measure => simp [intOf]; omega
            · go_wp2_with fail
              refine (hat_any _ _ _ k R _ (hr.out.later hx3) (by omega)).mono ?_
              rw [hpk.out]
              rintro e w4 ⟨rfl, hb4⟩
              have hx4 := below_size hx3 hb4
              go_wp2
              go_roundw
              case rel => exact ⟨k + 1, false, by omega, by go_num, rfl, by simpa using hv', hx4⟩
              case measure => simp [intOf]; omega
        · have tk : ¬ (k : Int) < n := by omega
          have ekn : k = n := by omega
          rw [ekn] at hv
          clear ekn hk
          have hpn := mkHid (hpad.out n (by omega))
          have rn56 := R56.out n
          have vcase : (vb = false) ∨ (vb = true ∧ R n ≤ 1) := by
            cases vb
            · exact .inl rfl
            · exact .inr ⟨rfl, by rw [Rn.out]; exact cy_digits (hv.out rfl)⟩
          clear hv Rn R9
          rcases vcase with rfl | ⟨rfl, hc1⟩
          · skip
            clear hpn
            go_wp2
            go_loopw [9, 10] (fun sa i wr => ∃ k c : Nat, k ≤ n + 1 ∧ i = .int .i64 ((k : Int) - 1) ∧ sa = .int .i64 (c : Int) ∧ c ≤ 56 ∧ Hid (c = accOf P Q n k) ∧ Below w1.heap.size w1 wr) (fun _ i _ => (intOf i + 1).toNat)
            case atStart => exact ⟨n + 1, 0, by omega, by go_num, rfl, by omega, (show _ = _ by simp [accOf]), hnx⟩
            case round =>
              obtain ⟨k, c, hk, rfl, rfl, hc56, hc, hnx⟩ := hrel
              cases k with
              | zero =>
                have hc0 : c = 0 := by rw [hc.out]; simp [accOf, cy]
                subst hc0
                have hcx := below_size hb1 hnx
                clear hc hnx hb1
                go_wp2
                go_ret
                exact ⟨rfl, hcx⟩
              | succ i =>
                rw [show ((i + 1 : Nat) : Int) - 1 = (i : Int) by omega]
                have hpi := mkHid (hpad.out i (by omega))
                have p255 := HP8.out i
                have q255 := HQ8.out i
                have r56 := R56.out i
                obtain ⟨d, hd⟩ : ∃ d, accOf P Q n i = d := ⟨_, rfl⟩
                have hd56 : d ≤ 56 := by rw [← hd]; exact A56.out i
                have Ed : 10 * (c : Int) + (R i : Int) - (P i : Int) - (Q i : Int) = (d : Int) := by
                  have := Rs.out i (by omega)
                  rw [← hc.out, hd] at this
                  exact this
                have HD := mkHid hd.symm
                clear hd hc
                go_wp2_with fail
                refine (hat_any _ _ _ i R _ (hr.out.later hnx) (by omega)).mono ?_
                rw [hpi.out]
                rintro e w2 ⟨rfl, hb2⟩
                have hx2 := below_size hnx hb2
                go_wp2_with fail
                refine (hat_any _ _ _ i f0 _ (r0'.out.later hx2) (HB0.out i)).mono ?_
                rw [HP.out]
                rintro e w3 ⟨rfl, hb3⟩
                have hx3 := below_size hx2 hb3
                go_wp2_with fail
                refine (hat_any _ _ _ i f1 _ (r1'.out.later hx3) (HB1.out i)).mono ?_
                rw [HQ.out]
                rintro e w4 ⟨rfl, hb4⟩
                have hx4 := below_size hx3 hb4
                clear hb2 hb3 hb4 hx2 hx3 hnx
                have t1 : decide ((d : Int) < 0) = false := by simp
                have t2 : decide ((56 : Int) < (d : Int)) = false := by simp; omega
                go_wp2
                go_roundw
                case rel => exact ⟨i, d, by omega, rfl, rfl, hd56, HD, hx4⟩
                case measure => simp [intOf]
          · have tq : decide ((1 : Int) < (R n : Int)) = false := by simp; omega
            go_wp2_with fail
            refine (hat_any _ _ _ n R _ (hr.out.later hnx) (by omega)).mono ?_
            rw [hpn.out]
            rintro e w2 ⟨rfl, hb2⟩
            replace hnx := below_size hnx hb2
            clear hb2
            clear hpn
            go_wp2
            go_loopw [9, 10] (fun sa i wr => ∃ k c : Nat, k ≤ n + 1 ∧ i = .int .i64 ((k : Int) - 1) ∧ sa = .int .i64 (c : Int) ∧ c ≤ 56 ∧ Hid (c = accOf P Q n k) ∧ Below w1.heap.size w1 wr) (fun _ i _ => (intOf i + 1).toNat)
            case atStart => exact ⟨n + 1, 0, by omega, by go_num, rfl, by omega, (show _ = _ by simp [accOf]), hnx⟩
            case round =>
              obtain ⟨k, c, hk, rfl, rfl, hc56, hc, hnx⟩ := hrel
              cases k with
              | zero =>
                have hc0 : c = 0 := by rw [hc.out]; simp [accOf, cy]
                subst hc0
                have hcx := below_size hb1 hnx
                clear hc hnx hb1
                go_wp2
                go_ret
                exact ⟨rfl, hcx⟩
              | succ i =>
                rw [show ((i + 1 : Nat) : Int) - 1 = (i : Int) by omega]
                have hpi := mkHid (hpad.out i (by omega))
                have p255 := HP8.out i
                have q255 := HQ8.out i
                have r56 := R56.out i
                obtain ⟨d, hd⟩ : ∃ d, accOf P Q n i = d := ⟨_, rfl⟩
                have hd56 : d ≤ 56 := by rw [← hd]; exact A56.out i
                have Ed : 10 * (c : Int) + (R i : Int) - (P i : Int) - (Q i : Int) = (d : Int) := by
                  have := Rs.out i (by omega)
                  rw [← hc.out, hd] at this
                  exact this
                have HD := mkHid hd.symm
                clear hd hc
                go_wp2_with fail
                refine (hat_any _ _ _ i R _ (hr.out.later hnx) (by omega)).mono ?_
                rw [hpi.out]
                rintro e w2 ⟨rfl, hb2⟩
                have hx2 := below_size hnx hb2
                go_wp2_with fail
                refine (hat_any _ _ _ i f0 _ (r0'.out.later hx2) (HB0.out i)).mono ?_
                rw [HP.out]
                rintro e w3 ⟨rfl, hb3⟩
                have hx3 := below_size hx2 hb3
                go_wp2_with fail
                refine (hat_any _ _ _ i f1 _ (r1'.out.later hx3) (HB1.out i)).mono ?_
                rw [HQ.out]
                rintro e w4 ⟨rfl, hb4⟩
                have hx4 := below_size hx3 hb4
                clear hb2 hb3 hb4 hx2 hx3 hnx
                have t1 : decide ((d : Int) < 0) = false := by simp
                have t2 : decide ((56 : Int) < (d : Int)) = false := by simp; omega
                go_wp2
                go_roundw
                case rel => exact ⟨i, d, by omega, rfl, rfl, hd56, HD, hx4⟩
                case measure => simp [intOf]

end Go.Proofs.Ymbrdt
