import Derived.Test.YmbrdsFu
import Derived.Test.YmbrdsPlainA
namespace Go.Proofs.Ymbrds
open Go.RowKit

def m10 (f : Nat → Nat) : Nat → Nat := fun i => f i % 10
def upTo (k : Nat) (h : Nat → Nat) : Nat → Nat := fun i => if i < k then h i else 0

theorem upTo_step (k d : Nat) (h : Nat → Nat) (hd : h k = d) : upd (upTo k h) k d = upTo (k + 1) h := by
  subst hd
  funext i
  unfold upd upTo
  by_cases e : i = k
  · subst e; simp
  · rw [if_neg e]
    by_cases h2 : i < k
    · rw [if_pos h2, if_pos (by omega)]
    · rw [if_neg h2, if_neg (by omega)]

theorem upTo_all {k i : Nat} (h : Nat → Nat) (hi : i < k) : upTo k h i = h i := by unfold upTo; rw [if_pos hi]

theorem m10_canon (f : Nat → Nat) (n : Nat) : Canon (tl (m10 f) n) (m10 f) := tl_canon (fun i _ => by unfold m10; omega)

set_option maxHeartbeats 400000 in
theorem enorm_any (a0 : Option Addr) (n0 c0 : Nat) (f : Nat → Nat) (w : World) (hn0 : n0 ≤ 1073741824) (hf : Reads w a0 n0 f) (b8 : ∀ j, f j ≤ 255) :
    Calls Ydsm.prog 24 #[.slice a0 n0 c0] w fun e w' => ∃ b, e = .returned (.slice (some ⟨b, 0, none⟩) (tl (m10 f) n0) (tl (m10 f) n0)) ∧ w.heap.size ≤ b ∧ Owns w' 5 b (tl (m10 f) n0) (by8 (m10 f)) ∧ Below w.heap.size w w' := by
  obtain ⟨ba, oa, ha, hA⟩ := hf
  obtain ⟨g, hg⟩ : ∃ g, m10 f = g := ⟨_, rfl⟩
  have HG : Hid (∀ i, g i = f i % 10) := fun i => by rw [← hg]; rfl
  rw [hg]
  clear hg
  have B8 := mkHid b8
  have HA := mkHid hA
  have Ha := mkHid ha
  clear b8 hA ha
  go_enter Ydsm.func24, Ydsm.ntmps24
  go_wp2
  go_loop [3] (fun i => ∃ t : Nat, t ≤ n0 ∧ i = .int .i64 (t : Int) ∧ Hid (∀ j, t ≤ j → j < n0 → g j = 0)) (fun i => (intOf i).toNat)
  case atStart => exact ⟨n0, by omega, rfl, (show ∀ _, _ by intro j h1 h2; omega)⟩
  case round =>
    obtain ⟨t, ht, rfl, hz⟩ := hrel
    by_cases hgo : 0 < t ∧ g (t - 1) = 0
    · obtain ⟨s, rfl⟩ : ∃ s, t = s + 1 := ⟨t - 1, by omega⟩
      obtain ⟨rfl, hba⟩ := Ha.out (by omega)
      have ga := HA.out s (by omega)
      have hj : (s : Int) < n0 := by omega
      have h8 := B8.out s
      have Eg : (f s : Int) % 10 = (g s : Int) := by rw [HG.out]; simp
      have gz : g s = 0 := by simpa using hgo.2
      have hq : ((g s : Int) == 0) = true := beq_iff_eq.2 (by omega)
      have hz' : Hid (∀ j, s ≤ j → j < n0 → g j = 0) := by
        show ∀ _, _
        intro j h1 h2
        by_cases e : j = s
        · rw [e]; exact gz
        · exact hz.out j (by omega) h2
      have es : ((s + 1 : Nat) : Int) - 1 = (s : Int) := by omega
      clear HA Ha hz hgo gz HG B8
      go_wp2
      go_round
      case rel => exact ⟨s, by omega, by go_num, hz'⟩
      case measure => simp [intOf]
    · have het : Hid (tl g n0 = t) := tl_uniq ht hz.out (fun h1 h2 => hgo ⟨h1, h2⟩)
      have stay : (¬ 0 < t) ∨ (0 < t ∧ ¬ g (t - 1) = 0) := by omega
      clear hz hgo
      have main : (t = 0) ∨ (∃ s, t = s + 1 ∧ a0 = some ⟨ba, oa, none⟩ ∧ w.cell? ⟨ba, oa + s, none⟩ = some (.int .u8 (f s : Int)) ∧ (f s : Int) % 10 = (g s : Int) ∧ ((g s : Int) == 0) = false ∧ f s ≤ 255) := by
        rcases stay with h1 | ⟨h1, h2⟩
        · exact .inl (by omega)
        · refine .inr ⟨t - 1, by omega, (Ha.out (by omega)).1, HA.out (t - 1) (by omega), ?_, beq_eq_false_iff_ne.2 (by omega), B8.out _⟩
          rw [HG.out]; simp
      clear stay
      rcases main with rfl | ⟨s, rfl, rfl, ga, Eg, hq, h8⟩
      · go_wp2_with (at_make; refine wpList_mk _ rfl _ _ 23 rfl 5 (.int .u8 0) 1 Ydsm.underlying23 Ydsm.info5 rfl _ _ _ _ 0 rfl rfl (by omega) (by omega) (by omega) (by unfold maxLen; omega) ?_)
        intro w1 ho1 hb1
        go_wp2
        go_loopw [5] (fun i wr => i = .int .i64 0 ∧ wr = w1) (fun _ _ => 0)
        case atStart => exact ⟨rfl, rfl⟩
        case round =>
          obtain ⟨rfl, rfl⟩ := hrel
          go_wp2
          go_ret
          rw [het.out]
          exact ⟨w.heap.size, rfl, Nat.le_refl _, ho1.congr fun i hi => by omega, hb1⟩
      · have hj : (s : Int) < n0 := by omega
        have es : ((s + 1 : Nat) : Int) - 1 = (s : Int) := by omega
        go_wp2_with (at_make; refine wpList_mk _ rfl _ _ 23 rfl 5 (.int .u8 0) 1 Ydsm.underlying23 Ydsm.info5 rfl _ _ _ _ (s + 1) rfl rfl (by omega) (by omega) (by omega) (by unfold maxLen; omega) ?_)
        intro w1 ho1 hb1
        clear ga Eg hq h8
        go_wp2
        go_loopw [5] (fun i wr => ∃ k : Nat, k ≤ s + 1 ∧ i = .int .i64 (k : Int) ∧ Owns wr 5 w.heap.size (s + 1) (by8 (upTo k g)) ∧ Below w.heap.size w wr) (fun i _ => s + 1 - (intOf i).toNat)
        case atStart =>
          refine ⟨0, by omega, rfl, ho1.congr fun i hi => ?_, hb1⟩
          simp [by8, upTo]
        case round =>
          obtain ⟨k, hk, rfl, hown, hnx⟩ := hrel
          clear ho1 hb1
          by_cases hlt : k < s + 1
          · have ga : wr.cell? ⟨ba, oa + k, none⟩ = some (.int .u8 (f k : Int)) := (hnx.cell (by exact (Ha.out (by omega)).2)).trans (HA.out k (by omega))
            have h8 := B8.out k
            have Eg : (f k : Int) % 10 = (g k : Int) := by rw [HG.out]; simp
            have j1 : (k : Int) < n0 := by omega
            have j2 : (k : Int) < ((s + 1 : Nat) : Int) := by omega
            have c1 := hown.cell k hlt
            have z1 := hown.frozen k
            have hst := hown.set8 k (g k)
            rw [upTo_step k (g k) g rfl] at hst
            have hbs := hnx.setCell (p := ⟨w.heap.size, k, none⟩) (Nat.le_refl _) (.int .u8 (g k : Int))
            have HST := mkHid hst
            have HBS := mkHid hbs
            clear hst hbs hown hnx HA Ha HG B8
            go_wp2
            go_roundw
            case rel => exact ⟨k + 1, by omega, by go_num, HST.out, HBS.out⟩
            case measure => simp [intOf]; omega
          · have ek : k = s + 1 := by omega
            have tk : ¬ (k : Int) < ((s + 1 : Nat) : Int) := by omega
            rw [ek] at hown
            clear ek HA Ha HG B8
            go_wp2
            go_ret
            rw [het.out]
            exact ⟨w.heap.size, rfl, Nat.le_refl _, hown.congr fun i hi => by unfold by8; rw [upTo_all g hi], hnx⟩

end Go.Proofs.Ymbrds
