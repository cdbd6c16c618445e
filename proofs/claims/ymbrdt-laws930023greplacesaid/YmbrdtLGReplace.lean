import Derived.Test.YmbrdtVld
import Derived.Test.YmbrdtFu
namespace Go.Proofs.Ymbrdt
open Go.RowKit

theorem upd_upd (f : Nat → Nat) (k a b : Nat) : upd (upd f k a) k b = upd f k b := by
  funext j
  unfold upd
  by_cases h : j = k <;> simp [h]

theorem canon_upd {n k d : Nat} {f : Nat → Nat} (h : Canon n f) (hk : k < n) : Canon n (upd f k d) ↔ d ≤ 9 ∧ (d ≠ 0 ∨ k ≠ n - 1) := by
  constructor
  · intro c
    have h1 := c.1 k hk
    have h2 := c.2 (by omega)
    rw [upd_same] at h1
    refine ⟨h1, ?_⟩
    by_cases e : k = n - 1
    · rw [← e, upd_same] at h2
      exact .inl h2
    · exact .inr e
  · rintro ⟨h1, h2⟩
    refine ⟨fun i hi => ?_, fun hn => ?_⟩
    · by_cases e : i = k
      · rw [e, upd_same]; exact h1
      · rw [upd_other _ _ _ _ e]; exact h.1 i hi
    · by_cases e : n - 1 = k
      · rw [e, upd_same]
        rcases h2 with h2 | h2
        · exact h2
        · omega
      · rw [upd_other _ _ _ _ e]; exact h.2 hn

theorem vldB_upd {n k d : Nat} {f : Nat → Nat} (h : Canon n f) (hk : k < n) (tb db zb : Bool) (h1 : (tb = true ↔ k = n - 1)) (h2 : (db = true ↔ d ≤ 9)) (h3 : (zb = true ↔ d ≠ 0)) :
    vldB n (upd f k d) = (db && (zb || !tb)) := by
  have e := canon_upd (d := d) h hk
  rw [Bool.eq_iff_iff, vldB_iff, e, Bool.and_eq_true, Bool.or_eq_true, h2, h3]
  have : (!tb) = true ↔ k ≠ n - 1 := by rw [Bool.not_eq_true', ← Bool.not_eq_true, h1]
  rw [this]

set_option maxHeartbeats 1000000 in
theorem law_GReplace (w : World) (x0 : Nat) (h0 : x0 ≤ 18446744073709551615) (x1 : Nat) (h1 : x1 ≤ 18446744073709551615) (x2 : Nat) (h2 : x2 ≤ 255) :
    Calls Ydtm.prog 10 #[.int .u64 (x0 : Int), .int .u64 (x1 : Int), .int .u8 (x2 : Int)] w fun e w' => e = .returned (.bool true) ∧ Below w.heap.size w w' := by
  go_enter Ydtm.func10, Ydtm.ntmps10
  go_wp2_with fail
  refine (fromUint64_any x0 h0 _).mono ?_
  rintro e w1 ⟨a, n, c, rfl, ho, hb⟩
  have hn20 := ho.2.1
  have hcan : Hid (Canon n (dig x0)) := ho.1.canon
  have hnd : Hid (ND x0 n) := ho.1
  have hr := ho.reads
  obtain ⟨_, _, _, _, hcase⟩ := ho
  have hV : Hid (vldB n (dig x0) = true) := vldB_true hcan.out
  go_wp2_with fail
  refine (valid_any _ _ _ (dig x0) _ (by omega) hr).mono ?_
  rintro e w2 ⟨rfl, hb2⟩
  rw [hV.out]
  rcases hcase with ⟨rfl, rfl, rfl⟩ | ⟨g, rfl, hg, hpos, hown1⟩
  · have hx : x0 = 0 := by have := hnd.out.1; simp at this; exact this
    subst hx
    have hc := below_size hb hb2
    clear hr hb hb2 hcan hnd hV
    go_wp2
    go_ret
    exact ⟨rfl, hc⟩
  have hown := hown1.later hb2
  have hc := below_size hb hb2
  clear hr hb hb2 hV hown1 hnd
  obtain ⟨k, hk⟩ : ∃ k, x1 % n = k := ⟨_, rfl⟩
  have hkn : k < n := by rw [← hk]; exact Nat.mod_lt _ hpos
  have Ek : (x1 : Int) % (n : Int) = (k : Int) := by rw [← hk]; simp
  clear hk
  obtain ⟨tb, q1, tbs⟩ : ∃ tb : Bool, ((k : Int) == (n : Int) - 1) = tb ∧ (tb = true ↔ k = n - 1) := ⟨_, rfl, by rw [beq_iff_eq]; omega⟩
  obtain ⟨db, q2, dbs⟩ : ∃ db : Bool, decide ((x2 : Int) < 10) = db ∧ (db = true ↔ x2 ≤ 9) := ⟨_, rfl, by rw [decide_eq_true_iff]; omega⟩
  obtain ⟨zb, q3, zbs⟩ : ∃ zb : Bool, ((x2 : Int) != 0) = zb ∧ (zb = true ↔ x2 ≠ 0) := ⟨_, rfl, by rw [bne_iff_ne]; omega⟩
  have H1 : Hid (vldB n (upd (dig x0) k x2) = (db && (zb || !tb))) := vldB_upd hcan.out hkn tb db zb tbs dbs zbs
  have H2 : Hid (vldB n (upd (dig x0) k 10) = false) := (vldB_upd hcan.out hkn tb false true tbs (by simp) (by simp)).trans (by simp)
  have H3 : Hid (vldB n (upd (dig x0) k 9) = true) := (vldB_upd hcan.out hkn tb true true tbs (by simp) (by simp)).trans (by simp)
  have H4 : Hid (vldB n (upd (dig x0) k 0) = !tb) := (vldB_upd hcan.out hkn tb true false tbs (by simp) (by simp)).trans (by simp)
  clear tbs dbs zbs hcan
  have j1 : (k : Int) < n := by omega
  have n1 : ((n : Int) == 0) = false := beq_eq_false_iff_ne.2 (by omega)
  have n2 : ¬ (n : Int) ≤ 0 := by omega
  have c1 := hown.cell k hkn
  have z1 := hown.frozen k
  have hown2 := hown.set8 k x2
  have hc2 := hc.setCell (p := ⟨g, k, none⟩) (by exact hg) (.int .u8 (x2 : Int))
  cases tb <;> cases db <;> cases zb
  all_goals
    go_wp2_with fail
    refine (valid_any _ _ _ (upd (dig x0) k x2) _ (by omega) hown2.reads).mono ?_
    rintro e w3 ⟨rfl, hb3⟩
    rw [H1.out]
    have hown3 := hown2.later hb3
    have hc3 := below_later hc2 hb3 hc2.size
    have c3 := hown3.cell k hkn
    have z3 := hown3.frozen k
    have hown4 := hown3.set8 k 10
    have hc4 := hc3.setCell (p := ⟨g, k, none⟩) (by exact hg) (.int .u8 10)
    rw [upd_upd] at hown4
    clear hown3 hc3 hown2 hc2 hown hc c1 z1 hb3
    go_wp2_with fail
    refine (valid_any _ _ _ (upd (dig x0) k 10) _ (by omega) hown4.reads).mono ?_
    rintro e w5 ⟨rfl, hb5⟩
    rw [H2.out]
    have hown5 := hown4.later hb5
    have hc5 := below_later hc4 hb5 hc4.size
    have c5 := hown5.cell k hkn
    have z5 := hown5.frozen k
    have hown6 := hown5.set8 k 9
    have hc6 := hc5.setCell (p := ⟨g, k, none⟩) (by exact hg) (.int .u8 9)
    rw [upd_upd] at hown6
    clear hown4 hc4 hown5 hc5 c3 z3 hb5
    go_wp2_with fail
    refine (valid_any _ _ _ (upd (dig x0) k 9) _ (by omega) hown6.reads).mono ?_
    rintro e w7 ⟨rfl, hb7⟩
    rw [H3.out]
    have hown7 := hown6.later hb7
    have hc7 := below_later hc6 hb7 hc6.size
    have c7 := hown7.cell k hkn
    have z7 := hown7.frozen k
    have hown8 := hown7.set8 k 0
    have hc8 := hc7.setCell (p := ⟨g, k, none⟩) (by exact hg) (.int .u8 0)
    rw [upd_upd] at hown8
    clear hown6 hc6 hown7 hc7 c5 z5 hb7
    go_wp2_with fail
    refine (valid_any _ _ _ (upd (dig x0) k 0) _ (by omega) hown8.reads).mono ?_
    rintro e w9 ⟨rfl, hb9⟩
    rw [H4.out]
    have hc9 := below_later hc8 hb9 hc8.size
    clear hown8 hc8 c7 z7 hb9
    go_wp2
    go_ret
    exact ⟨rfl, hc9⟩

end Go.Proofs.Ymbrdt
