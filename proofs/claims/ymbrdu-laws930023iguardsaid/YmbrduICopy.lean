import Derived.Test.YmbrduIMake
namespace Go.Proofs.Ymbrdu
open Go.RowKit

def tam (tame : Bool) (f : Nat → Nat) : Nat → Nat := fun i => if tame then f i % 11 else f i

set_option maxHeartbeats 400000 in
theorem icopy_any (a0 : Option Addr) (n0 c0 : Nat) (tame : Bool) (f : Nat → Nat) (w : World) (hn0 : n0 ≤ 1073741824) (hf : Reads w a0 n0 f) (b8 : ∀ j, f j ≤ 255) :
    Calls Ydum.prog 18 #[.slice a0 n0 c0, .bool tame] w fun e w' => ∃ b, e = .returned (.slice (some ⟨b, 0, none⟩) n0 n0) ∧ w.heap.size ≤ b ∧ Owns w' 5 b n0 (by8 (tam tame f)) ∧ Below w.heap.size w w' := by
  obtain ⟨ba, oa, ha, hA⟩ := hf
  obtain ⟨g, hg⟩ : ∃ g, tam tame f = g := ⟨_, rfl⟩
  have HG : Hid (∀ i, g i = if tame then f i % 11 else f i) := fun i => by rw [← hg]; rfl
  rw [hg]
  clear hg
  have B8 := mkHid b8
  have HA := mkHid hA
  have Ha := mkHid ha
  clear b8 hA ha
  go_enter Ydum.func18, Ydum.ntmps18
  go_wp2_with (at_make; refine wpList_mk _ rfl _ _ 22 rfl 5 (.int .u8 0) 1 Ydum.underlying22 Ydum.info5 rfl _ _ _ _ n0 rfl rfl (by omega) (by omega) (by omega) (by unfold maxLen; omega) ?_)
  intro w1 ho1 hb1
  go_wp2
  go_loopw [6] (fun i wr => ∃ k : Nat, k ≤ n0 ∧ i = .int .i64 (k : Int) ∧ Owns wr 5 w.heap.size n0 (by8 (upTo k g)) ∧ Below w.heap.size w wr) (fun i _ => n0 - (intOf i).toNat)
  case atStart =>
    refine ⟨0, by omega, rfl, ho1.congr fun i hi => ?_, hb1⟩
    simp [by8, upTo]
  case round =>
    obtain ⟨k, hk, rfl, hown, hnx⟩ := hrel
    clear ho1 hb1
    by_cases hlt : k < n0
    · obtain ⟨rfl, hba⟩ := Ha.out (by omega)
      have ga : wr.cell? ⟨ba, oa + k, none⟩ = some (.int .u8 (f k : Int)) := (hnx.cell (by exact hba)).trans (HA.out k hlt)
      have h8 := B8.out k
      have j1 : (k : Int) < n0 := by omega
      have c1 := hown.cell k hlt
      have z1 := hown.frozen k
      have hst := hown.set8 k (g k)
      rw [upTo_step k (g k) g rfl] at hst
      have hbs := hnx.setCell (p := ⟨w.heap.size, k, none⟩) (Nat.le_refl _) (.int .u8 (g k : Int))
      have HST := mkHid hst
      have HBS := mkHid hbs
      have hgk := HG.out k
      clear hst hbs hown hnx HA Ha HG B8
      cases tame with
      | true =>
        have Eg : (f k : Int) % 11 = (g k : Int) := by rw [hgk]; simp
        clear hgk
        go_wp2
        go_roundw
        case rel => exact ⟨k + 1, by omega, by go_num, HST.out, HBS.out⟩
        case measure => simp [intOf]; omega
      | false =>
        have Eg : g k = f k := by rw [hgk]; simp
        rw [Eg] at HST HBS
        clear hgk Eg
        go_wp2
        go_roundw
        case rel => exact ⟨k + 1, by omega, by go_num, HST.out, HBS.out⟩
        case measure => simp [intOf]; omega
    · have ek : k = n0 := by omega
      have tk : ¬ (k : Int) < n0 := by omega
      rw [ek] at hown
      clear ek HA Ha HG B8
      go_wp2
      go_ret
      exact ⟨w.heap.size, rfl, Nat.le_refl _, hown.congr fun i hi => by unfold by8; rw [upTo_all g hi], hnx⟩

end Go.Proofs.Ymbrdu
