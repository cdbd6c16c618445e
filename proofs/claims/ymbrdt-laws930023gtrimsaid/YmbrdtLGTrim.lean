import Derived.Test.YmbrdtVld
import Derived.Test.YmbrdtTrm
namespace Go.Proofs.Ymbrdt
open Go.RowKit

def gd (x : Nat) : Nat := if x % 8 = 0 then 0 else if x % 8 = 1 then 9 else if x % 8 = 3 then 10 else x

theorem gd_le {x : Nat} (h : x ≤ 255) : gd x ≤ 255 := by unfold gd; split <;> (try split) <;> (try split) <;> omega

theorem gdigit_any (x : Nat) (hx : x ≤ 255) (w : World) :
    Calls Ydtm.prog 22 #[.int .u8 (x : Int)] w fun e w' => e = .returned (.int .u8 (gd x : Int)) ∧ w' = w := by
  unfold gd
  by_cases h0 : x % 8 = 0
  · have q0 : ((x : Int) % 8 == 0) = true := beq_iff_eq.2 (by omega)
    rw [if_pos h0]
    clear h0
    go_enter Ydtm.func22, Ydtm.ntmps22
    go_wp2
    go_ret
    exact ⟨rfl, rfl⟩
  rw [if_neg h0]
  have q0 : ((x : Int) % 8 == 0) = false := beq_eq_false_iff_ne.2 (by omega)
  by_cases h1 : x % 8 = 1
  · have q1 : ((x : Int) % 8 == 1) = true := beq_iff_eq.2 (by omega)
    rw [if_pos h1]
    clear h0 h1
    go_enter Ydtm.func22, Ydtm.ntmps22
    go_wp2
    go_ret
    exact ⟨rfl, rfl⟩
  rw [if_neg h1]
  have q1 : ((x : Int) % 8 == 1) = false := beq_eq_false_iff_ne.2 (by omega)
  by_cases h3 : x % 8 = 3
  · have q3 : ((x : Int) % 8 == 3) = true := beq_iff_eq.2 (by omega)
    rw [if_pos h3]
    clear h0 h1 h3
    go_enter Ydtm.func22, Ydtm.ntmps22
    go_wp2
    go_ret
    exact ⟨rfl, rfl⟩
  rw [if_neg h3]
  have q3 : ((x : Int) % 8 == 3) = false := beq_eq_false_iff_ne.2 (by omega)
  clear h0 h1 h3
  go_enter Ydtm.func22, Ydtm.ntmps22
  go_wp2
  go_ret
  exact ⟨rfl, rfl⟩

def part (k : Nat) (h : Nat → Nat) : Nat → Nat := fun i => if i < k then h i else 0

theorem part_step (k : Nat) (h : Nat → Nat) : upd (part k h) k (h k) = part (k + 1) h := by
  funext i
  unfold upd part
  by_cases e : i = k
  · subst e; simp
  · rw [if_neg e]
    by_cases h2 : i < k
    · rw [if_pos h2, if_pos (by omega)]
    · rw [if_neg h2, if_neg (by omega)]

theorem part_all {k i : Nat} (h : Nat → Nat) (hi : i < k) : part k h i = h i := by unfold part; rw [if_pos hi]

set_option maxHeartbeats 1000000 in
theorem law_GTrim (w : World) (a0 : Option Addr) (n0 c0 : Nat) (f0 : Nat → Nat) (r0 : Reads w a0 n0 f0) (b0 : ∀ j, f0 j ≤ 255) (_l0 : n0 ≤ c0) (_m0 : c0 ≤ 9223372036854775807) :
    Calls Ydtm.prog 9 #[.slice a0 n0 c0] w fun e w' => e = .returned (.bool true) ∧ Below w.heap.size w w' := by
  by_cases h0 : 4096 < n0
  · go_enter Ydtm.func9, Ydtm.ntmps9
    go_wp2
    go_ret
    exact ⟨rfl, Below.refl _ _⟩
  obtain ⟨ba, oa, ha, hA⟩ := r0
  obtain ⟨h, hh⟩ : ∃ h : Nat → Nat, ∀ i, gd (f0 i) = h i := ⟨fun i => gd (f0 i), fun _ => rfl⟩
  have HH : Hid (∀ i, gd (f0 i) = h i) := hh
  have B8 : Hid (∀ j, f0 j ≤ 255) := b0
  clear hh b0
  go_enter Ydtm.func9, Ydtm.ntmps9
  go_wp2_with (at_make; refine wpList_mk _ rfl _ _ 23 rfl 5 (.int .u8 0) 1 Ydtm.underlying23 Ydtm.info5 rfl _ _ _ _ n0 rfl rfl (by omega) (by omega) (by omega) (by unfold maxLen; omega) ?_)
  intro w1 ho1 hb1
  go_wp2
  go_loopw [4, 5] (fun s i wr => ∃ (k : Nat) (sb : Bool), k ≤ n0 ∧ i = .int .i64 (k : Int) ∧ s = .bool sb ∧ Hid (sb = true ↔ ∀ j, j < k → h j ≤ 9) ∧ Owns wr 5 w.heap.size n0 (by8 (part k h)) ∧ Below w.heap.size w wr) (fun _ i _ => n0 - (intOf i).toNat)
  case atStart =>
    refine ⟨0, true, by omega, rfl, rfl, (show _ ↔ _ from ⟨fun _ j hj => by omega, fun _ => rfl⟩), ho1.congr fun i hi => ?_, hb1⟩
    simp [by8, part]
  case round =>
    obtain ⟨k, sb, hk, rfl, rfl, hs, hown, hnx⟩ := hrel
    clear ho1 hb1
    by_cases hlt : k < n0
    · obtain ⟨rfl, hba⟩ := ha (by omega)
      have ga : wr.cell? ⟨ba, oa + k, none⟩ = some (.int .u8 (f0 k : Int)) := (hnx.cell (by exact hba)).trans (hA k hlt)
      have hj : (k : Int) < n0 := by omega
      have h8 := B8.out k
      have c1 := hown.cell k hlt
      have z1 := hown.frozen k
      have hst := hown.set8 k (h k)
      rw [part_step] at hst
      have hbs := hnx.setCell (p := ⟨w.heap.size, k, none⟩) (Nat.le_refl _) (.int .u8 (h k : Int))
      have HST : Hid _ := hst
      have HBS : Hid _ := hbs
      clear hst hbs hown hnx hA ha
      go_wp2_with fail
      refine (gdigit_any (f0 k) h8 _).mono ?_
      rintro e w2 ⟨rfl, rfl⟩
      rw [HH.out]
      by_cases h9 : h k ≤ 9
      · have q : ¬ (10 : Int) ≤ h k := by omega
        have hs' : Hid (sb = true ↔ ∀ j, j < k + 1 → h j ≤ 9) := by
          show _ ↔ _
          rw [hs.out]
          constructor
          · intro hx j hj
            by_cases e : j = k
            · rw [e]; exact h9
            · exact hx j (by omega)
          · intro hx j hj; exact hx j (by omega)
        clear hs HH B8
        go_wp2
        go_roundw
        case rel => exact ⟨k + 1, sb, by omega, by go_num, rfl, hs', HST.out, HBS.out⟩
        case measure => simp [intOf]; omega
      · have q : (10 : Int) ≤ h k := by omega
        have hs' : Hid (false = true ↔ ∀ j, j < k + 1 → h j ≤ 9) := by
          show _ ↔ _
          constructor
          · intro hx; cases hx
          · intro hx; exact absurd (hx k (by omega)) h9
        clear hs HH B8
        go_wp2
        go_roundw
        case rel => exact ⟨k + 1, false, by omega, by go_num, rfl, hs', HST.out, HBS.out⟩
        case measure => simp [intOf]; omega
    · obtain rfl : k = n0 := by omega
      have hownh : Owns wr 5 w.heap.size k (by8 h) := hown.congr fun i hi => by unfold by8; rw [part_all h hi]
      have e1 : Hid (vldB (tl h k) h = sb) := by
        show _ = _
        rw [Bool.eq_iff_iff, vldB_iff, hs.out]
        constructor
        · intro c j hj
          by_cases e : j < tl h k
          · exact c.1 j e
          · rw [tl_zero h k j (by omega) hj]; omega
        · intro hx; exact tl_canon hx
      have e2 : Hid (∃ tb : Bool, (((tl h k : Nat) : Int) == (k : Int)) = tb ∧ vldB k h = (sb && tb)) := by
        refine ⟨_, rfl, ?_⟩
        rw [Bool.eq_iff_iff, vldB_iff, Bool.and_eq_true, hs.out, beq_iff_eq]
        constructor
        · intro c
          refine ⟨c.1, ?_⟩
          rw [tl_uniq (Nat.le_refl _) (fun i h1 h2 => by omega) c.2]
        · rintro ⟨hx, hy⟩
          have hy' : tl h k = k := by omega
          have := tl_canon (n := k) hx
          rw [hy'] at this
          exact this
      obtain ⟨tb, q5, E2⟩ := e2.out
      have E2' : Hid (vldB k h = (sb && tb)) := E2
      have htl := tl_le h k
      clear e2 E2 hown hs hA ha HH B8
      go_wp2_with fail
      refine (trim_any _ _ _ h _ (by omega) (Nat.le_refl _) (by omega) hownh.reads).mono ?_
      rintro e w2 ⟨g, rfl, hg, ho2, hb2⟩
      have hc2 := below_later hnx hb2 hnx.size
      have hownh2 := hownh.later hb2
      clear hnx hb2 hownh
      go_wp2_with fail
      refine (valid_any _ _ _ h _ (by omega) ho2.reads).mono ?_
      rintro e w3 ⟨rfl, hb3⟩
      rw [e1.out]
      have hc3 := below_later hc2 hb3 hc2.size
      have hownh3 := hownh2.later hb3
      clear hc2 hb3 hownh2 ho2 e1
      have q6 : (sb != sb) = false := by simp
      go_wp2_with fail
      refine (valid_any _ _ _ h _ (by omega) hownh3.reads).mono ?_
      rintro e w4 ⟨rfl, hb4⟩
      rw [E2'.out]
      have hc4 := below_later hc3 hb4 hc3.size
      clear hc3 hb4 hownh3 E2'
      cases sb <;> cases tb
      all_goals
        go_wp2
        go_ret
        exact ⟨rfl, hc4⟩

end Go.Proofs.Ymbrdt
