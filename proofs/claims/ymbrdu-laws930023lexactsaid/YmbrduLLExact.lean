import Derived.Test.YmbrduLPad
import Derived.Test.YmbrduTrm
import Derived.WalkSpells
namespace Go.Proofs.Ymbrdu
open Go.RowKit

set_option maxHeartbeats 1000000 in
theorem law_LExact (w : World) (a0 : Option Addr) (n0 c0 : Nat) (f0 : Nat → Nat) (r0 : Reads w a0 n0 f0) (_b0 : ∀ j, f0 j ≤ 255) (_l0 : n0 ≤ c0) (_m0 : c0 ≤ 9223372036854775807) (x1 : Nat) (h1 : x1 ≤ 255) :
    Calls Ydum.prog 11 #[.slice a0 n0 c0, .int .u8 (x1 : Int)] w fun e w' => e = .returned (.bool true) ∧ Below w.heap.size w w' := by
  by_cases h0 : 1024 < n0
  · go_enter Ydum.func11, Ydum.ntmps11
    go_wp2
    go_ret
    exact ⟨rfl, Below.refl _ _⟩
  have R0 := mkHid r0
  clear r0
  obtain ⟨z, hz⟩ : ∃ z, x1 % 8 = z := ⟨_, rfl⟩
  have Ez : (x1 : Int) % 8 = (z : Int) := by omega
  have z7 : z ≤ 7 := by omega
  clear hz
  have hnl := fun (wx : World) (a : Option Addr) (n c : Nat) => Lib.run_eql_slice_nil (P := Ydum.prog) wx 24 5 a n c 0 0 Ydum.underlying24
  go_enter Ydum.func11, Ydum.ntmps11
  go_wp2_with fail
  refine (lpad_any _ _ _ z f0 _ (by omega) (by omega) R0.out).mono ?_
  rintro e w1 ⟨bI, rfl, hgI, hoI, hb1⟩
  go_wp2_with fail
  refine (trim_any _ _ _ (upTo n0 f0) _ (by omega) (Nat.le_refl _) (by omega) hoI.reads).mono ?_
  rw [tl_upTo]
  rintro e w2 ⟨bO, rfl, hgO, hoO, hb2⟩
  replace hoI := hoI.later hb2
  have hc2 := below_size hb1 hb2
  have htl := tl_le f0 n0
  obtain ⟨ba, oa, ha, hA⟩ := R0.out.later hc2
  have HA := mkHid hA
  have Ha := mkHid ha
  have IC : Hid (∀ i, i < n0 + z → w2.cell? ⟨bI, i, none⟩ = some (.int .u8 (upTo n0 f0 i : Int)) ∧ bI < w2.heap.size) := fun i hi => ⟨hoI.cell i hi, hoI.lt⟩
  have OC : Hid (∀ i, i < tl f0 n0 → w2.cell? ⟨bO, i, none⟩ = some (.int .u8 (f0 i : Int)) ∧ bO < w2.heap.size) := fun i hi => ⟨by rw [hoO.cell i hi]; unfold by8; rw [upTo_all f0 (by omega)], hoO.lt⟩
  obtain ⟨t, ht⟩ : ∃ t, tl f0 n0 = t := ⟨_, rfl⟩
  rw [ht] at OC htl ⊢
  have HT := mkHid ht
  clear hA ha hoI hoO hb1 hb2 R0 ht
  go_wp2
  go_loop [7, 8] (fun sw i => ∃ k m : Nat, k ≤ n0 ∧ i = .int .i64 (k : Int) ∧ sw = .int .i64 (m : Int) ∧ Hid (tl f0 k = m)) (fun _ i => n0 - (intOf i).toNat)
  case atStart => exact ⟨0, 0, by omega, rfl, rfl, (show _ = _ by rfl)⟩
  case round =>
    obtain ⟨k, m, hk, rfl, rfl, hm⟩ := hrel
    by_cases hlt : k < n0
    · obtain ⟨rfl, hba⟩ := Ha.out (by omega)
      have ga := HA.out k hlt
      have j1 : (k : Int) < n0 := by omega
      by_cases hz : f0 k = 0
      · have q : ((f0 k : Int) != 0) = false := by simp [hz]
        have hm' : Hid (tl f0 (k + 1) = m) := by show _ = _; rw [tl, if_pos hz]; exact hm.out
        clear HA Ha IC OC hm hz
        go_wp2
        go_round
        case rel => exact ⟨k + 1, m, by omega, by go_num, rfl, hm'⟩
        case measure => simp [intOf]; omega
      · have q : ((f0 k : Int) != 0) = true := by simp; exact hz
        have hm' : Hid (tl f0 (k + 1) = k + 1) := by show _ = _; rw [tl, if_neg hz]
        clear HA Ha IC OC hm
        go_wp2
        go_round
        case rel => exact ⟨k + 1, k + 1, by omega, by go_num, by go_num, hm'⟩
        case measure => simp [intOf]; omega
    · have tk : ¬ (k : Int) < n0 := by omega
      have em : m = t := by rw [← hm.out, show k = n0 by omega]; exact HT.out
      subst em
      have q2 : ((m : Int) != (m : Int)) = false := by simp
      clear hm HT
      go_wp2
      go_loopw [9] (fun i wr => ∃ k : Nat, k ≤ m ∧ i = .int .i64 (k : Int) ∧ Below w2.heap.size w2 wr) (fun i _ => m - (intOf i).toNat)
      case atStart => exact ⟨0, by omega, rfl, Below.refl _ _⟩
      case round =>
        obtain ⟨k, hk, rfl, hnx⟩ := hrel
        by_cases hlt : k < m
        · obtain ⟨rfl, hba⟩ := Ha.out (by omega)
          have ga : wr.cell? ⟨ba, oa + k, none⟩ = some (.int .u8 (f0 k : Int)) := (hnx.cell (by exact hba)).trans (HA.out k (by omega))
          have go : wr.cell? ⟨bO, k, none⟩ = some (.int .u8 (f0 k : Int)) := (hnx.cell (p := ⟨bO, k, none⟩) (OC.out k hlt).2).trans (OC.out k hlt).1
          have j1 : (k : Int) < n0 := by omega
          have j2 : (k : Int) < m := by omega
          have q3 : ((f0 k : Int) != (f0 k : Int)) = false := by simp
          clear HA Ha IC OC
          go_wp2
          go_quiet (fail)
          go_wp2
          go_roundw
          case rel => exact ⟨k + 1, by omega, by go_num, bdrew hnx _⟩
          case measure => simp [intOf]; omega
        · have tm : ¬ (k : Int) < m := by omega
          go_wp2
          go_loopw [10] (fun i wr => ∃ k : Nat, k ≤ n0 + z ∧ i = .int .i64 (k : Int) ∧ Below w2.heap.size w2 wr) (fun i _ => n0 + z - (intOf i).toNat)
          case atStart => exact ⟨0, by omega, rfl, hnx⟩
          case round =>
            obtain ⟨k, hk, rfl, hnx⟩ := hrel
            by_cases hlt : k < n0 + z
            · have gi : wr.cell? ⟨bI, k, none⟩ = some (.int .u8 (upTo n0 f0 k : Int)) := (hnx.cell (p := ⟨bI, k, none⟩) (IC.out k hlt).2).trans (IC.out k hlt).1
              have j1 : (k : Int) < ((n0 + z : Nat) : Int) := by omega
              by_cases hn : k < n0
              · obtain ⟨rfl, hba⟩ := Ha.out (by omega)
                have ga : wr.cell? ⟨ba, oa + k, none⟩ = some (.int .u8 (f0 k : Int)) := (hnx.cell (by exact hba)).trans (HA.out k hn)
                rw [upTo_all f0 hn] at gi
                have j2 : (k : Int) < n0 := by omega
                have q3 : ((f0 k : Int) != (f0 k : Int)) = false := by simp
                clear HA Ha IC OC
                go_wp2
                go_quiet (fail)
                go_wp2
                go_roundw
                case rel => exact ⟨k + 1, by omega, by go_num, bdrew hnx _⟩
                case measure => simp [intOf]; omega
              · have e0 : upTo n0 f0 k = 0 := by unfold upTo; rw [if_neg hn]
                rw [e0] at gi
                have j2 : ¬ (k : Int) < n0 := by omega
                clear HA Ha IC OC e0
                go_wp2
                go_roundw
                case rel => exact ⟨k + 1, by omega, by go_num, hnx⟩
                case measure => simp [intOf]; omega
            · have tm2 : ¬ (k : Int) < ((n0 + z : Nat) : Int) := by omega
              have hcx := below_size hc2 hnx
              clear HA Ha IC OC
              go_wp2
              go_ret
              exact ⟨rfl, hcx⟩

end Go.Proofs.Ymbrdu
