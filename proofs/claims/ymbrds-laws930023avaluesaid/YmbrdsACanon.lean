import Derived.Test.YmbrdsFu
import Derived.Test.YmbrdsPlainA
namespace Go.Proofs.Ymbrds
open Go.RowKit

def jn (n : Nat) (f g : Nat → Nat) : Nat → Nat := fun i => (if i < n then f i else g (i - n)) % 10

theorem jn_canon (n : Nat) (f g : Nat → Nat) (m : Nat) : Canon (tl (jn n f g) m) (jn n f g) := tl_canon (fun i _ => by unfold jn; omega)

def aTo (k : Nat) (h : Nat → Nat) : Nat → Nat := fun i => if i < k then h i else 0

theorem aTo_step (k d : Nat) (h : Nat → Nat) (hd : h k = d) : upd (aTo k h) k d = aTo (k + 1) h := by
  subst hd
  funext i
  unfold upd aTo
  by_cases e : i = k
  · subst e; simp
  · rw [if_neg e]
    by_cases h2 : i < k
    · rw [if_pos h2, if_pos (by omega)]
    · rw [if_neg h2, if_neg (by omega)]

theorem aTo_all {k i : Nat} (h : Nat → Nat) (hi : i < k) : aTo k h i = h i := by unfold aTo; rw [if_pos hi]

set_option maxHeartbeats 1000000 in
theorem acanon_any (a0 : Option Addr) (n0 c0 : Nat) (a1 : Option Addr) (n1 c1 : Nat) (f g : Nat → Nat) (w : World) (hn0 : n0 ≤ 1073741824) (hn1 : n1 ≤ 1073741824) (hf : Reads w a0 n0 f) (hg : Reads w a1 n1 g) (f8 : ∀ j, f j ≤ 255) (g8 : ∀ j, g j ≤ 255) :
    Calls Ydsm.prog 15 #[.slice a0 n0 c0, .slice a1 n1 c1] w fun e w' => ∃ b, e = .returned (.slice (some ⟨b, 0, none⟩) (tl (jn n0 f g) (n0 + n1)) (n0 + n1)) ∧ w.heap.size ≤ b ∧ Owns w' 5 b (n0 + n1) (by8 (jn n0 f g)) ∧ Below w.heap.size w w' := by
  obtain ⟨ba, oa, ha, hA⟩ := hf
  obtain ⟨bb, ob, hb, hB⟩ := hg
  obtain ⟨h, hh⟩ : ∃ h, jn n0 f g = h := ⟨_, rfl⟩
  have H1 : Hid (∀ i, i < n0 → h i = f i % 10) := fun i hi => by rw [← hh]; unfold jn; rw [if_pos hi]
  have H2 : Hid (∀ i, h (n0 + i) = g i % 10) := fun i => by rw [← hh]; unfold jn; rw [if_neg (by omega), show n0 + i - n0 = i by omega]
  rw [hh]
  clear hh
  have F8 := mkHid f8
  have G8 := mkHid g8
  have HA := mkHid hA
  have Ha := mkHid ha
  have HB := mkHid hB
  have Hb := mkHid hb
  clear f8 g8 hA ha hB hb
  go_enter Ydsm.func15, Ydsm.ntmps15
  go_wp2_with (at_make; refine wpList_mk _ rfl _ _ 23 rfl 5 (.int .u8 0) 1 Ydsm.underlying23 Ydsm.info5 rfl _ _ _ _ (n0 + n1) rfl rfl (by omega) (by omega) (by omega) (by unfold maxLen; omega) ?_)
  intro w1 ho1 hb1
  go_wp2
  go_loopw [7] (fun i wr => ∃ k : Nat, k ≤ n0 ∧ i = .int .i64 (k : Int) ∧ Owns wr 5 w.heap.size (n0 + n1) (by8 (aTo k h)) ∧ Below w.heap.size w wr) (fun i _ => n0 - (intOf i).toNat)
  case atStart =>
    refine ⟨0, by omega, rfl, ho1.congr fun i hi => ?_, hb1⟩
    simp [by8, aTo]
  case round =>
    obtain ⟨k, hk, rfl, hown, hnx⟩ := hrel
    clear ho1 hb1
    by_cases hlt : k < n0
    · obtain ⟨rfl, hba⟩ := Ha.out (by omega)
      have ga : wr.cell? ⟨ba, oa + k, none⟩ = some (.int .u8 (f k : Int)) := (hnx.cell (by exact hba)).trans (HA.out k (by omega))
      have h8 := F8.out k
      have Eg : (f k : Int) % 10 = (h k : Int) := by rw [H1.out k hlt]; simp
      have j1 : (k : Int) < n0 := by omega
      have j2 : (k : Int) < ((n0 + n1 : Nat) : Int) := by omega
      have cc1 := hown.cell k (by omega)
      have z1 := hown.frozen k
      have hst := hown.set8 k (h k)
      rw [aTo_step k (h k) h rfl] at hst
      have hbs := hnx.setCell (p := ⟨w.heap.size, k, none⟩) (Nat.le_refl _) (.int .u8 (h k : Int))
      have HST := mkHid hst
      have HBS := mkHid hbs
      clear hst hbs hown hnx HA Ha HB Hb H1 H2 F8 G8
      go_wp2
      go_roundw
      case rel => exact ⟨k + 1, by omega, by go_num, HST.out, HBS.out⟩
      case measure => simp [intOf]; omega
    · have tk : ¬ (k : Int) < n0 := by omega
      rw [show k = n0 by omega] at hown
      go_wp2
      go_loopw [8] (fun i wr => ∃ k : Nat, k ≤ n1 ∧ i = .int .i64 (k : Int) ∧ Owns wr 5 w.heap.size (n0 + n1) (by8 (aTo (n0 + k) h)) ∧ Below w.heap.size w wr) (fun i _ => n1 - (intOf i).toNat)
      case atStart => exact ⟨0, by omega, rfl, hown, hnx⟩
      case round =>
        clear hown hnx
        obtain ⟨k2, hk2, rfl, hown, hnx⟩ := hrel
        by_cases hlt2 : k2 < n1
        · obtain ⟨rfl, hbb⟩ := Hb.out (by omega)
          have ga : wr.cell? ⟨bb, ob + k2, none⟩ = some (.int .u8 (g k2 : Int)) := (hnx.cell (by exact hbb)).trans (HB.out k2 (by omega))
          have h8 := G8.out k2
          have Eg : (g k2 : Int) % 10 = (h (n0 + k2) : Int) := by rw [H2.out k2]; simp
          have j1 : (k2 : Int) < n1 := by omega
          have j2 : (n0 : Int) + (k2 : Int) < ((n0 + n1 : Nat) : Int) := by omega
          have cc1 := hown.cell (n0 + k2) (by omega)
          have z1 := hown.frozen (n0 + k2)
          have hst := hown.set8 (n0 + k2) (h (n0 + k2))
          rw [aTo_step (n0 + k2) (h (n0 + k2)) h rfl] at hst
          have hbs := hnx.setCell (p := ⟨w.heap.size, n0 + k2, none⟩) (Nat.le_refl _) (.int .u8 (h (n0 + k2) : Int))
          have HST := mkHid hst
          have HBS := mkHid hbs
          clear hst hbs hown hnx HA Ha HB Hb H1 H2 F8 G8
          go_wp2
          go_roundw
          case rel => exact ⟨k2 + 1, by omega, by go_num, HST.out, HBS.out⟩
          case measure => simp [intOf]; omega
        · have tk2 : ¬ (k2 : Int) < n1 := by omega
          rw [show k2 = n1 by omega] at hown
          have hown' := hown.congr (G := by8 h) (fun i hi => by unfold by8; rw [aTo_all h hi])
          clear hown
          go_wp2
          go_loop [5] (fun i => ∃ t : Nat, t ≤ n0 + n1 ∧ i = .int .i64 (t : Int) ∧ Hid (∀ j, t ≤ j → j < n0 + n1 → h j = 0)) (fun i => (intOf i).toNat)
          case atStart => exact ⟨n0 + n1, by omega, by go_num, (show ∀ _, _ by intro j h1 h2; omega)⟩
          case round =>
            obtain ⟨t, ht, rfl, hz⟩ := hrel
            by_cases hgo : 0 < t ∧ h (t - 1) = 0
            · obtain ⟨s, rfl⟩ : ∃ s, t = s + 1 := ⟨t - 1, by omega⟩
              have ga := hown'.cell s (by omega)
              unfold by8 at ga
              have hj : (s : Int) < ((n0 + n1 : Nat) : Int) := by omega
              have gz : h s = 0 := by simpa using hgo.2
              have hq : ((h s : Int) == 0) = true := beq_iff_eq.2 (by omega)
              have hz' : Hid (∀ j, s ≤ j → j < n0 + n1 → h j = 0) := by
                show ∀ _, _
                intro j h1 h2
                by_cases e : j = s
                · rw [e]; exact gz
                · exact hz.out j (by omega) h2
              have es : ((s + 1 : Nat) : Int) - 1 = (s : Int) := by omega
              clear HA Ha HB Hb H1 H2 F8 G8 hz hgo gz hown' hnx
              go_wp2
              go_round
              case rel => exact ⟨s, by omega, by go_num, hz'⟩
              case measure => simp [intOf]
            · have het : Hid (tl h (n0 + n1) = t) := tl_uniq ht hz.out (fun h1 h2 => hgo ⟨h1, h2⟩)
              clear hz
              by_cases ht0 : t = 0
              · subst ht0
                clear hgo HA Ha HB Hb H1 H2 F8 G8
                go_wp2
                go_ret
                rw [het.out]
                exact ⟨w.heap.size, rfl, Nat.le_refl _, hown', hnx⟩
              · obtain ⟨s, rfl⟩ : ∃ s, t = s + 1 := ⟨t - 1, by omega⟩
                have ga := hown'.cell s (by omega)
                unfold by8 at ga
                have gz : ¬ h s = 0 := fun e => hgo ⟨by omega, e⟩
                have hj : (s : Int) < ((n0 + n1 : Nat) : Int) := by omega
                have hq : ((h s : Int) == 0) = false := beq_eq_false_iff_ne.2 (by omega)
                have es : ((s + 1 : Nat) : Int) - 1 = (s : Int) := by omega
                clear hgo HA Ha HB Hb H1 H2 F8 G8 ht0 gz
                go_wp2
                go_ret
                rw [het.out]
                exact ⟨w.heap.size, rfl, Nat.le_refl _, hown', hnx⟩

end Go.Proofs.Ymbrds
