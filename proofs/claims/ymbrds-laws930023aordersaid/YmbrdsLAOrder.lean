import Derived.Test.YmbrdsCmp
namespace Go.Proofs.Ymbrds
open Go.RowKit

theorem three_facts {x : Int} (h : x = -1 ∨ x = 0 ∨ x = 1) : -1 ≤ x ∧ x ≤ 1 := by omega

set_option maxHeartbeats 1000000 in
theorem law_AOrder (w : World) (a0 : Option Addr) (n0 c0 : Nat) (f0 : Nat → Nat) (r0 : Reads w a0 n0 f0) (_b0 : ∀ j, f0 j ≤ 255) (_l0 : n0 ≤ c0) (_m0 : c0 ≤ 9223372036854775807)
    (a1 : Option Addr) (n1 c1 : Nat) (f1 : Nat → Nat) (r1 : Reads w a1 n1 f1) (_b1 : ∀ j, f1 j ≤ 255) (_l1 : n1 ≤ c1) (_m1 : c1 ≤ 9223372036854775807)
    (a2 : Option Addr) (n2 c2 : Nat) (f2 : Nat → Nat) (r2 : Reads w a2 n2 f2) (_b2 : ∀ j, f2 j ≤ 255) (_l2 : n2 ≤ c2) (_m2 : c2 ≤ 9223372036854775807) :
    Calls Ydsm.prog 5 #[.slice a0 n0 c0, .slice a1 n1 c1, .slice a2 n2 c2] w fun e w' => e = .returned (.bool true) ∧ Below w.heap.size w w' := by
  by_cases h0 : 1024 < n0
  · go_enter Ydsm.func5, Ydsm.ntmps5
    go_wp2
    go_ret
    exact ⟨rfl, Below.refl _ _⟩
  by_cases h1 : 1024 < n1
  · go_enter Ydsm.func5, Ydsm.ntmps5
    go_wp2
    go_ret
    exact ⟨rfl, Below.refl _ _⟩
  by_cases h2 : 1024 < n2
  · go_enter Ydsm.func5, Ydsm.ntmps5
    go_wp2
    go_ret
    exact ⟨rfl, Below.refl _ _⟩
  obtain ⟨x, hx⟩ : ∃ x, cmpF n0 f0 n1 f1 = x := ⟨_, rfl⟩
  obtain ⟨y, hy⟩ : ∃ y, cmpF n1 f1 n2 f2 = y := ⟨_, rfl⟩
  obtain ⟨z, hz⟩ : ∃ z, cmpF n0 f0 n2 f2 = z := ⟨_, rfl⟩
  have sx : Hid (cmpF n1 f1 n0 f0 = -x) := by show _ = _; rw [cmpF_swap n0 f0 n1 f1, hx]
  have sz : Hid (cmpF n0 f0 n0 f0 = 0) := (cmpF_zero n0 f0 n0 f0).2 ⟨rfl, fun _ _ => rfl⟩
  have tx : Hid (x = -1 ∨ x = 0 ∨ x = 1) := by show _ ∨ _; rw [← hx]; exact cmpF_three _ _ _ _
  have ty : Hid (y = -1 ∨ y = 0 ∨ y = 1) := by show _ ∨ _; rw [← hy]; exact cmpF_three _ _ _ _
  have tz : Hid (z = -1 ∨ z = 0 ∨ z = 1) := by show _ ∨ _; rw [← hz]; exact cmpF_three _ _ _ _
  have zx : Hid (x = 0 ↔ n0 = n1 ∧ ∀ i, i < n0 → f0 i = f1 i) := by show _ ↔ _; rw [← hx]; exact cmpF_zero _ _ _ _
  have tr : Hid (x ≤ 0 → y ≤ 0 → z ≤ 0 ∧ (z = 0 ↔ x = 0 ∧ y = 0)) := by
    show _ → _ → _
    rw [← hx, ← hy, ← hz]
    exact cmpF_trans _ _ _ _ _ _
  have HX : Hid (cmpF n0 f0 n1 f1 = x) := hx
  have HY : Hid (cmpF n1 f1 n2 f2 = y) := hy
  have HZ : Hid (cmpF n0 f0 n2 f2 = z) := hz
  obtain ⟨x1, x2⟩ := three_facts tx.out
  clear hx hy hz
  go_enter Ydsm.func5, Ydsm.ntmps5
  go_wp2_with fail
  refine (compare_any _ _ _ _ _ _ f0 f1 _ (by omega) (by omega) r0 r1).mono ?_
  rintro e w1 ⟨rfl, hb1⟩
  rw [HX.out]
  go_wp2_with fail
  refine (compare_any _ _ _ _ _ _ f1 f2 _ (by omega) (by omega) (r1.later hb1) (r2.later hb1)).mono ?_
  rintro e w2 ⟨rfl, hb2⟩
  rw [HY.out]
  have hc2 := below_size hb1 hb2
  clear hb1 hb2
  go_wp2_with fail
  refine (compare_any _ _ _ _ _ _ f0 f2 _ (by omega) (by omega) (r0.later hc2) (r2.later hc2)).mono ?_
  rintro e w3 ⟨rfl, hb3⟩
  rw [HZ.out]
  have hc3 := below_size hc2 hb3
  clear hc2 hb3
  go_wp2_with fail
  refine (compare_any _ _ _ _ _ _ f1 f0 _ (by omega) (by omega) (r1.later hc3) (r0.later hc3)).mono ?_
  rintro e w4 ⟨rfl, hb4⟩
  rw [sx.out]
  have hc4 := below_size hc3 hb4
  clear hc3 hb4
  go_wp2_with fail
  refine (compare_any _ _ _ _ _ _ f0 f0 _ (by omega) (by omega) (r0.later hc4) (r0.later hc4)).mono ?_
  rintro e w5 ⟨rfl, hb5⟩
  rw [sz.out]
  have hc5 := below_size hc4 hb5
  clear hc4 hb5
  have r0' := r0.later hc5
  have r1' := r1.later hc5
  obtain ⟨ba, oa, ha, hA⟩ := r0'
  obtain ⟨bb, ob, hb, hB⟩ := r1'
  have R0 : Hid _ := ha
  have R1 : Hid _ := hb
  have R2 : Hid _ := hA
  have R3 : Hid _ := hB
  clear r0 r1 r2 ha hb hA hB HX HY HZ sx sz
  go_wp2
  go_loopw [10, 11] (fun s i wr => ∃ (k : Nat) (sb : Bool), k ≤ n0 ∧ i = .int .i64 (k : Int) ∧ s = .bool sb ∧ Hid (sb = true ↔ n0 = n1 ∧ ∀ j, j < k → f0 j = f1 j) ∧ Below w5.heap.size w5 wr) (fun s i _ => n0 - (intOf i).toNat)
  case atStart =>
    refine ⟨0, decide (n0 = n1), Nat.zero_le _, rfl, ?_, ?_, Below.refl _ _⟩
    · by_cases e : n0 = n1 <;> simp [e]; omega
    · show _ ↔ _
      simp
  case round =>
    obtain ⟨k, sb, hk, rfl, rfl, hs, hnx⟩ := hrel
    have hcx := hc5.trans (hnx.mono hc5.size)
    have fin : (sb = false ∨ k = n0) → Hid ((sb = true ∧ x = 0) ∨ (sb = false ∧ x ≠ 0)) := by
      intro h
      show _ ∨ _
      cases sb with
      | true =>
        refine Or.inl ⟨rfl, zx.out.2 ⟨(hs.out.1 rfl).1, fun i hi => (hs.out.1 rfl).2 i (by rcases h with h | h; cases h; omega)⟩⟩
      | false =>
        refine Or.inr ⟨rfl, fun hx0 => ?_⟩
        have h3 := zx.out.1 hx0
        exact absurd (hs.out.2 ⟨h3.1, fun j hj => h3.2 j (by omega)⟩) (by decide)
    cases sb with
    | false =>
      have hx0 : x ≠ 0 := by rcases (fin (Or.inl rfl)).out with h | h; exact absurd h.1 (by decide); exact h.2
      clear fin hs zx R0 R1 R2 R3
      rcases tx.out with rfl | rfl | rfl
      · rcases ty.out with rfl | rfl | rfl <;> rcases tz.out with rfl | rfl | rfl
        all_goals first
          | (exfalso; have h9 := tr.out; omega)
          | (clear tr tx ty tz; go_wp2; go_ret; exact ⟨rfl, hcx⟩)
      · exact absurd rfl hx0
      · clear tr tx ty tz
        go_wp2
        go_ret
        exact ⟨rfl, hcx⟩
    | true =>
      by_cases hlt : k < n0
      · obtain ⟨rfl, hba⟩ := R0.out (by omega)
        have e1 : n0 = n1 := (hs.out.1 rfl).1
        obtain ⟨rfl, hbb⟩ := R1.out (by omega)
        have ga : wr.cell? ⟨ba, oa + k, none⟩ = some (.int .u8 (f0 k : Int)) := (hnx.cell (by exact hba)).trans (R2.out k hlt)
        have gb : wr.cell? ⟨bb, ob + k, none⟩ = some (.int .u8 (f1 k : Int)) := (hnx.cell (by exact hbb)).trans (R3.out k (by omega))
        have hj : (k : Int) < n0 := by omega
        have hj1 : (k : Int) < n1 := by omega
        have hs' : Hid (∀ b : Bool, (b = true ↔ f0 k = f1 k) → (b = true ↔ n0 = n1 ∧ ∀ j, j < k + 1 → f0 j = f1 j)) := by
          intro b hbb2
          rw [hbb2]
          constructor
          · intro he
            refine ⟨e1, fun j hj2 => ?_⟩
            by_cases hjk : j = k
            · rw [hjk, he]
            · exact (hs.out.1 rfl).2 j (by omega)
          · intro he
            exact he.2 k (by omega)
        clear fin zx tr tx ty tz R0 R1 R2 R3 hs e1
        by_cases he : f0 k = f1 k
        · have hne : ((f0 k : Int) != (f1 k : Int)) = false := by simp [he]
          go_wp2
          go_quiet (fail)
          go_wp2
          go_roundw
          case rel => exact ⟨k + 1, true, by omega, by go_num, rfl, hs'.out true (by simp [he]), bdrew hnx _⟩
          case measure => simp [intOf]; omega
        · have hne : ((f0 k : Int) != (f1 k : Int)) = true := by simp; omega
          go_wp2
          go_quiet (fail)
          go_wp2
          go_roundw
          case rel => exact ⟨k + 1, false, by omega, by go_num, rfl, hs'.out false (by simp [he]), bdrew hnx _⟩
          case measure => simp [intOf]; omega
      · have hx0 : x = 0 := by rcases (fin (Or.inr (by omega))).out with h | h; exact h.2; exact absurd h.1 (by decide)
        clear fin hs zx R0 R1 R2 R3
        subst hx0
        rcases ty.out with rfl | rfl | rfl <;> rcases tz.out with rfl | rfl | rfl
        all_goals first
          | (exfalso; have h9 := tr.out; omega)
          | (clear tr tx ty tz; go_wp2; go_ret; exact ⟨rfl, hcx⟩)

end Go.Proofs.Ymbrds
