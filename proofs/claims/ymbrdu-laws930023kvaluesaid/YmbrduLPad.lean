import Derived.Test.YmbrduIMake
namespace Go.Proofs.Ymbrdu
open Go.RowKit

theorem tl_congr {f g : Nat → Nat} : ∀ n, (∀ i, i < n → f i = g i) → tl f n = tl g n
  | 0, _ => rfl
  | n + 1, h => by rw [tl, tl, h n (by omega), tl_congr n (fun i hi => h i (by omega))]

theorem tl_upTo (f : Nat → Nat) (n k : Nat) : tl (upTo n f) (n + k) = tl f n := by
  have h1 := tl_le f n
  refine tl_uniq (by omega) (fun i h2 h3 => ?_) (fun hp => ?_)
  · unfold upTo
    by_cases e : i < n
    · rw [if_pos e]; exact tl_zero f n i h2 e
    · rw [if_neg e]
  · unfold upTo
    rw [if_pos (by omega)]
    exact tl_top f n hp

set_option maxHeartbeats 400000 in
theorem lpad_any (a0 : Option Addr) (n0 c0 k0 : Nat) (f : Nat → Nat) (w : World) (hn0 : n0 ≤ 1073741824) (hk0 : k0 ≤ 1073741824) (hf : Reads w a0 n0 f) :
    Calls Ydum.prog 24 #[.slice a0 n0 c0, .int .i64 (k0 : Int)] w fun e w' => ∃ b, e = .returned (.slice (some ⟨b, 0, none⟩) (n0 + k0) (n0 + k0)) ∧ w.heap.size ≤ b ∧ Owns w' 5 b (n0 + k0) (by8 (upTo n0 f)) ∧ Below w.heap.size w w' := by
  obtain ⟨ba, oa, ha, hA⟩ := hf
  have HA := mkHid hA
  have Ha := mkHid ha
  clear hA ha
  go_enter Ydum.func24, Ydum.ntmps24
  go_wp2_with (at_make; refine wpList_mk _ rfl _ _ 24 rfl 5 (.int .u8 0) 1 Ydum.underlying24 Ydum.info5 rfl _ _ _ _ (n0 + k0) rfl rfl (by omega) (by omega) (by omega) (by unfold maxLen; omega) ?_)
  intro w1 ho1 hb1
  go_wp2
  go_loopw [6] (fun i wr => ∃ k : Nat, k ≤ n0 ∧ i = .int .i64 (k : Int) ∧ Owns wr 5 w.heap.size (n0 + k0) (by8 (upTo k f)) ∧ Below w.heap.size w wr) (fun i _ => n0 - (intOf i).toNat)
  case atStart =>
    refine ⟨0, by omega, rfl, ho1.congr fun i hi => ?_, hb1⟩
    simp [by8, upTo]
  case round =>
    obtain ⟨k, hk, rfl, hown, hnx⟩ := hrel
    clear ho1 hb1
    by_cases hlt : k < n0
    · obtain ⟨rfl, hba⟩ := Ha.out (by omega)
      have ga : wr.cell? ⟨ba, oa + k, none⟩ = some (.int .u8 (f k : Int)) := (hnx.cell (by exact hba)).trans (HA.out k hlt)
      have j1 : (k : Int) < n0 := by omega
      have j2 : (k : Int) < ((n0 + k0 : Nat) : Int) := by omega
      have c1 := hown.cell k (by omega)
      have z1 := hown.frozen k
      have hst := hown.set8 k (f k)
      rw [upTo_step k (f k) f rfl] at hst
      have hbs := hnx.setCell (p := ⟨w.heap.size, k, none⟩) (Nat.le_refl _) (.int .u8 (f k : Int))
      have HST := mkHid hst
      have HBS := mkHid hbs
      clear hst hbs hown hnx HA Ha
      go_wp2
      go_roundw
      case rel => exact ⟨k + 1, by omega, by go_num, HST.out, HBS.out⟩
      case measure => simp [intOf]; omega
    · have ek : k = n0 := by omega
      have tk : ¬ (k : Int) < n0 := by omega
      rw [ek] at hown
      clear ek HA Ha
      go_wp2
      go_ret
      exact ⟨w.heap.size, rfl, Nat.le_refl _, hown, hnx⟩

end Go.Proofs.Ymbrdu
