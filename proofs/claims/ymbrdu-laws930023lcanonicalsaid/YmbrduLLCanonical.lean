import Derived.Test.YmbrduLPad
import Derived.Test.YmbrduTrm
namespace Go.Proofs.Ymbrdu
open Go.RowKit

theorem tl_canonical {n : Nat} {f : Nat → Nat} (h : Canon n f) : tl f n = n := tl_uniq (Nat.le_refl _) (fun i h1 h2 => by omega) h.2

set_option maxHeartbeats 400000 in
theorem law_LCanonical (w : World) (x0 : Nat) (h0 : x0 ≤ 18446744073709551615) (x1 : Nat) (h1 : x1 ≤ 255) :
    Calls Ydum.prog 13 #[.int .u64 (x0 : Int), .int .u8 (x1 : Int)] w fun e w' => e = .returned (.bool true) ∧ Below w.heap.size w w' := by
  obtain ⟨z, hz⟩ : ∃ z, x1 % 16 = z := ⟨_, rfl⟩
  have Ez : (x1 : Int) % 16 = (z : Int) := by omega
  have z15 : z ≤ 15 := by omega
  clear hz
  go_enter Ydum.func13, Ydum.ntmps13
  go_wp2_with fail
  refine (fromUint64_any x0 h0 _).mono ?_
  rintro e w1 ⟨a, n, c, rfl, ho, hb1⟩
  have n20 := ho.2.1
  have hcn := mkHid ho.1.canon
  have hr := ho.reads
  clear ho
  go_wp2_with fail
  refine (lpad_any _ _ _ z (dig x0) _ (by omega) (by omega) hr).mono ?_
  rintro e w2 ⟨bI, rfl, hgI, hoI, hb2⟩
  replace hr := hr.later hb2
  have hc2 := below_size hb1 hb2
  go_wp2_with fail
  refine (trim_any _ _ _ (upTo n (dig x0)) _ (by omega) (Nat.le_refl _) (by omega) hoI.reads).mono ?_
  rw [tl_upTo, tl_canonical hcn.out]
  rintro e w3 ⟨bO, rfl, hgO, hoO, hb3⟩
  obtain ⟨ba, oa, ha, hA⟩ := hr.later hb3
  have hc3 := below_size hc2 hb3
  have HA := mkHid hA
  have Ha := mkHid ha
  have OC : Hid (∀ i, i < n → w3.cell? ⟨bO, i, none⟩ = some (.int .u8 (dig x0 i : Int)) ∧ bO < w3.heap.size) := fun i hi => ⟨by rw [hoO.cell i hi]; unfold by8; rw [upTo_all _ hi], hoO.lt⟩
  clear hA ha hoI hoO hr hb1 hb2 hb3 hc2
  have q1 : ((n : Int) != (n : Int)) = false := by simp
  go_wp2
  go_loopw [7] (fun i wr => ∃ k : Nat, k ≤ n ∧ i = .int .i64 (k : Int) ∧ Below w3.heap.size w3 wr) (fun i _ => n - (intOf i).toNat)
  case atStart => exact ⟨0, by omega, rfl, Below.refl _ _⟩
  case round =>
    obtain ⟨k, hk, rfl, hnx⟩ := hrel
    by_cases hlt : k < n
    · obtain ⟨rfl, hba⟩ := Ha.out (by omega)
      have ga : wr.cell? ⟨ba, oa + k, none⟩ = some (.int .u8 (dig x0 k : Int)) := (hnx.cell (by exact hba)).trans (HA.out k hlt)
      have go : wr.cell? ⟨bO, k, none⟩ = some (.int .u8 (dig x0 k : Int)) := (hnx.cell (p := ⟨bO, k, none⟩) (OC.out k hlt).2).trans (OC.out k hlt).1
      have j1 : (k : Int) < n := by omega
      have q3 : ((dig x0 k : Int) != (dig x0 k : Int)) = false := by simp
      clear HA Ha OC
      go_wp2
      go_quiet (fail)
      go_wp2
      go_roundw
      case rel => exact ⟨k + 1, by omega, by go_num, bdrew hnx _⟩
      case measure => simp [intOf]; omega
    · have tk : ¬ (k : Int) < n := by omega
      have hcx := below_size hc3 hnx
      clear HA Ha OC
      go_wp2
      go_ret
      exact ⟨rfl, hcx⟩

end Go.Proofs.Ymbrdu
