import Derived.Test.YmbrduShf
namespace Go.Proofs.Ymbrdu
open Go.RowKit

def ShiftedOk (no : Nat) (h : Nat → Nat) (m : Nat) (f : Nat → Nat) (k : Nat) : Prop :=
  (m = 0 → no = 0) ∧ (0 < m → no = m + k ∧ (∀ i, i < k → h i = 0) ∧ ∀ i, i < m → h (k + i) = f i)

theorem shifted_ok (f : Nat → Nat) (n k : Nat) : ShiftedOk (tl (shf k f) (n + k)) (shf k f) (tl f n) f k := by
  have h1 := tl_le f n
  refine ⟨fun h0 => ?_, fun hp => ⟨?_, fun i hi => ?_, fun i hi => ?_⟩⟩
  · refine tl_uniq (by omega) (fun i _ h3 => ?_) (fun hp => by omega)
    unfold shf
    by_cases e : i < k
    · rw [if_pos e]
    · rw [if_neg e]; exact tl_zero f n _ (by omega) (by omega)
  · refine tl_uniq (by omega) (fun i h2 h3 => ?_) (fun _ => ?_)
    · unfold shf
      rw [if_neg (by omega)]
      exact tl_zero f n _ (by omega) (by omega)
    · unfold shf
      rw [if_neg (by omega), show tl f n + k - 1 - k = tl f n - 1 by omega]
      exact tl_top f n hp
  · unfold shf; rw [if_pos hi]
  · unfold shf; rw [if_neg (by omega), show k + i - k = i by omega]

set_option maxHeartbeats 1000000 in
theorem jshifted_any (ao aa : Option Addr) (no co na ca k : Nat) (h f : Nat → Nat) (w : World) (hno : no ≤ 1073741824) (hna : na ≤ 1073741824) (hk : k ≤ 1073741824)
    (ro : Reads w ao no h) (ra : Reads w aa na f) (ok : ShiftedOk no h (tl f na) f k) :
    Calls Ydum.prog 20 #[.slice ao no co, .slice aa na ca, .int .i64 (k : Int)] w fun e w' => e = .returned (.bool true) ∧ Below w.heap.size w w' := by
  obtain ⟨ob, oo, hoa, hoA⟩ := ro
  obtain ⟨ab, aoff, haa, haA⟩ := ra
  have OA := mkHid hoa
  have OC := mkHid hoA
  have AA := mkHid haa
  have AC := mkHid haA
  have OK := mkHid ok
  have htl := tl_le f na
  clear hoa hoA haa haA ok
  go_enter Ydum.func20, Ydum.ntmps20
  go_wp2
  go_loop [7, 8] (fun sm i => ∃ j m : Nat, j ≤ na ∧ i = .int .i64 (j : Int) ∧ sm = .int .i64 (m : Int) ∧ Hid (tl f j = m)) (fun _ i => na - (intOf i).toNat)
  case atStart => exact ⟨0, 0, by omega, rfl, rfl, (show _ = _ by rfl)⟩
  case round =>
    obtain ⟨j, m, hj, rfl, rfl, hm⟩ := hrel
    by_cases hlt : j < na
    · obtain ⟨rfl, hab⟩ := AA.out (by omega)
      have ga := AC.out j hlt
      have j1 : (j : Int) < na := by omega
      by_cases hz : f j = 0
      · have q : ((f j : Int) != 0) = false := by simp [hz]
        have hm' : Hid (tl f (j + 1) = m) := by show _ = _; rw [tl, if_pos hz]; exact hm.out
        clear OA OC AA AC OK hm hz
        go_wp2
        go_round
        case rel => exact ⟨j + 1, m, by omega, by go_num, rfl, hm'⟩
        case measure => simp [intOf]; omega
      · have q : ((f j : Int) != 0) = true := by simp; exact hz
        have hm' : Hid (tl f (j + 1) = j + 1) := by show _ = _; rw [tl, if_neg hz]
        clear OA OC AA AC OK hm
        go_wp2
        go_round
        case rel => exact ⟨j + 1, j + 1, by omega, by go_num, by go_num, hm'⟩
        case measure => simp [intOf]; omega
    · have tk : ¬ (j : Int) < na := by omega
      have em : tl f na = m := by rw [← hm.out, show j = na by omega]
      rw [em] at OK htl
      clear hm em
      rcases Nat.eq_zero_or_pos m with rfl | hmp
      · obtain rfl : no = 0 := OK.out.1 rfl
        clear OA OC AA AC OK
        go_wp2
        go_ret
        exact ⟨rfl, Below.refl _ _⟩
      · obtain ⟨e1, hz0, hcp⟩ := OK.out.2 hmp
        subst e1
        have Z0 := mkHid hz0
        have CP := mkHid hcp
        have q1 : ((m : Int) == 0) = false := beq_eq_false_iff_ne.2 (by omega)
        have q2 : (((m + k : Nat) : Int) != (m : Int) + (k : Int)) = false := by simp
        have q3 : ((m : Int) + (k : Int) != (m : Int) + (k : Int)) = false := by simp
        clear OK hz0 hcp
        go_wp2
        go_loop [9] (fun i => ∃ j : Nat, j ≤ k ∧ i = .int .i64 (j : Int)) (fun i => k - (intOf i).toNat)
        case atStart => exact ⟨0, by omega, rfl⟩
        case round =>
          obtain ⟨j2, hj2, rfl⟩ := hrel
          by_cases hlt2 : j2 < k
          · obtain ⟨rfl, hob⟩ := OA.out (by omega)
            have ga := OC.out j2 (by omega)
            rw [Z0.out j2 hlt2] at ga
            have j1 : (j2 : Int) < ((m + k : Nat) : Int) := by omega
            have j3 : (j2 : Int) < k := by omega
            clear OA OC AA AC Z0 CP
            go_wp2
            go_round
            case rel => exact ⟨j2 + 1, by omega, by go_num⟩
            case measure => simp [intOf]; omega
          · have tk2 : ¬ (j2 : Int) < k := by omega
            go_wp2
            go_loopw [10] (fun i wr => ∃ j : Nat, j ≤ m ∧ i = .int .i64 (j : Int) ∧ Below w.heap.size w wr) (fun i _ => m - (intOf i).toNat)
            case atStart => exact ⟨0, by omega, rfl, Below.refl _ _⟩
            case round =>
              obtain ⟨j4, hj4, rfl, hnx⟩ := hrel
              by_cases hlt4 : j4 < m
              · obtain ⟨rfl, hob⟩ := OA.out (by omega)
                obtain ⟨rfl, hab⟩ := AA.out (by omega)
                have ga : wr.cell? ⟨ab, aoff + j4, none⟩ = some (.int .u8 (f j4 : Int)) := (hnx.cell (by exact hab)).trans (AC.out j4 (by omega))
                have go : wr.cell? ⟨ob, oo + (k + j4), none⟩ = some (.int .u8 (f j4 : Int)) := by
                  rw [hnx.cell (p := ⟨ob, oo + (k + j4), none⟩) hob, OC.out (k + j4) (by omega), CP.out j4 hlt4]
                have j1 : (k : Int) + (j4 : Int) < ((m + k : Nat) : Int) := by omega
                have j5 : (j4 : Int) < na := by omega
                have j6 : (j4 : Int) < m := by omega
                have q4 : ((f j4 : Int) != (f j4 : Int)) = false := by simp
                clear OA OC AA AC Z0 CP
                go_wp2
                go_quiet (fail)
                go_wp2
                go_roundw
                case rel => exact ⟨j4 + 1, by omega, by go_num, bdrew hnx _⟩
                case measure => simp [intOf]; omega
              · have tk4 : ¬ (j4 : Int) < m := by omega
                clear OA OC AA AC Z0 CP
                go_wp2
                go_ret
                exact ⟨rfl, hnx⟩

end Go.Proofs.Ymbrdu
