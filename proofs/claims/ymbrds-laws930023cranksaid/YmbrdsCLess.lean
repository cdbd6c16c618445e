import Derived.Test.YmbrdsProg
import Derived.Test.YmbrdsBase
import Derived.Test.YmbrdsPlain
namespace Go.Proofs.Ymbrds
open Go.RowKit

theorem cless_step {f g : Nat → Nat} {k p q : Nat} (hp : f k = p) (hq : g k = q) : decide (cmpDown f g (k + 1) = -1) = if p = q then decide (cmpDown f g k = -1) else decide (p < q) := by
  rw [cmpDown, hp, hq]
  by_cases h1 : p < q
  · rw [if_pos h1, if_neg (by omega)]; simp [h1]
  · rw [if_neg h1]
    by_cases h2 : q < p
    · rw [if_pos h2, if_neg (by omega)]; simp [h1]
    · rw [if_neg h2, if_pos (by omega)]

set_option maxHeartbeats 1000000 in
theorem cless_any (a0 a1 : Option Addr) (n0 c0 n1 c1 : Nat) (f g : Nat → Nat) (w : World) (hn0 : n0 ≤ 9223372036854775807) (hn1 : n1 ≤ 9223372036854775807)
    (hf : Reads w a0 n0 f) (hg : Reads w a1 n1 g) (L : Bool) (hL : decide (cmpF n0 f n1 g = -1) = L) :
    Calls Ydsm.prog 21 #[.slice a0 n0 c0, .slice a1 n1 c1] w fun e w' => e = .returned (.bool L) ∧ Below w.heap.size w w' := by
  by_cases h1 : n0 < n1
  · have hb : L = true := by rw [← hL]; unfold cmpF; rw [if_pos h1]; rfl
    subst hb
    have q : ((n0 : Int) != (n1 : Int)) = true := by simp; omega
    clear hf hg hL
    go_enter Ydsm.func21, Ydsm.ntmps21
    go_wp2
    go_ret
    exact ⟨rfl, Below.refl _ _⟩
  by_cases h2 : n1 < n0
  · have hb : L = false := by rw [← hL]; unfold cmpF; rw [if_neg h1, if_pos h2]; rfl
    subst hb
    have q : ((n0 : Int) != (n1 : Int)) = true := by simp; omega
    clear hf hg hL
    go_enter Ydsm.func21, Ydsm.ntmps21
    go_wp2
    go_ret
    exact ⟨rfl, Below.refl _ _⟩
  obtain rfl : n0 = n1 := by omega
  have FIN : Hid (decide (cmpDown f g n0 = -1) = L) := by show _ = _; rw [← hL]; unfold cmpF; rw [if_neg h1, if_neg h1]
  have q : ((n0 : Int) != (n0 : Int)) = false := by simp
  obtain ⟨ba, oa, ha, hA⟩ := hf
  obtain ⟨bb, ob, hbb, hB⟩ := hg
  have HA := mkHid hA
  have HB := mkHid hB
  have Ha := mkHid ha
  have Hb := mkHid hbb
  clear h1 h2 hn1 ha hA hbb hB hL
  go_enter Ydsm.func21, Ydsm.ntmps21
  go_wp2
  go_loopw [5, 6] (fun sl i wr => ∃ (k : Nat) (l : Bool), k ≤ n0 ∧ i = .int .i64 (k : Int) ∧ sl = .bool l ∧ Hid (decide (cmpDown f g k = -1) = l) ∧ Below w.heap.size w wr) (fun _ i _ => n0 - (intOf i).toNat)
  case atStart => exact ⟨0, false, by omega, rfl, rfl, (show _ = _ by rfl), Below.refl _ _⟩
  case round =>
    obtain ⟨k, l, hk, rfl, rfl, hl, hnx⟩ := hrel
    by_cases hlt : k < n0
    · obtain ⟨rfl, hba⟩ := Ha.out (by omega)
      obtain ⟨rfl, hbw⟩ := Hb.out (by omega)
      have ga : wr.cell? ⟨ba, oa + k, none⟩ = some (.int .u8 (f k : Int)) := (hnx.cell (by exact hba)).trans (HA.out k (by omega))
      have gb : wr.cell? ⟨bb, ob + k, none⟩ = some (.int .u8 (g k : Int)) := (hnx.cell (by exact hbw)).trans (HB.out k (by omega))
      have hj : (k : Int) < n0 := by omega
      have ST := mkHid (cless_step (f := f) (g := g) (k := k) rfl rfl)
      rw [hl.out] at ST
      clear HA HB Ha Hb FIN hl
      by_cases t0 : f k = g k
      · have t1 : ((f k : Int) != (g k : Int)) = false := by simp [t0]
        rw [if_pos t0] at ST
        clear t0
        go_wp2
        go_quiet (fail)
        go_wp2
        go_roundw
        case rel => exact ⟨k + 1, l, by omega, by go_num, rfl, ST, bdrew hnx _⟩
        case measure => simp [intOf]; omega
      · have t1 : ((f k : Int) != (g k : Int)) = true := by simp; omega
        rw [if_neg t0] at ST
        clear t0
        go_wp2
        go_quiet (fail)
        go_wp2
        go_quiet (fail)
        go_wp2
        go_roundw
        case rel => exact ⟨k + 1, decide (f k < g k), by omega, by go_num, by simp, ST, bdrew hnx _⟩
        case measure => simp [intOf]; omega
    · have tk : ¬ (k : Int) < n0 := by omega
      rw [show k = n0 by omega, FIN.out] at hl
      have el : L = l := hl.out
      subst el
      clear hl FIN HA HB Ha Hb
      go_wp2
      go_ret
      exact ⟨rfl, hnx⟩

end Go.Proofs.Ymbrds
