import Derived.Test.YmbrdsProg
import Derived.Test.YmbrdsFu
namespace Go.Proofs.Ymbrds
open Go.RowKit

def StrIs (s : ByteArray) (n : Nat) (g : Nat → Nat) : Prop := s.size = n ∧ ∀ (i : Nat) (h : i < s.size), (s[i]'h).toNat = g i

theorem strOf (n : Nat) (g : Nat → Nat) (hg : ∀ i, i < n → g i ≤ 255) : StrIs (strOfNums ((List.range n).map fun i => ((g i : Nat) : Int))) n g := by
  refine ⟨by rw [strOfNums_size]; simp, fun i h => ?_⟩
  have hi : i < n := by rw [strOfNums_size] at h; simpa using h
  have h1 := hg i hi
  have e : (strOfNums ((List.range n).map fun i => ((g i : Nat) : Int)))[i]'h = UInt8.ofNat (g i) := by
    show (strOfNums ((List.range n).map fun i => ((g i : Nat) : Int))).data[i]'h = _
    simp [strOfNums]
  rw [e]
  simp
  omega

def fmtK (n k : Nat) (f : Nat → Nat) : Nat → Nat := fun j => if n - k ≤ j then (48 + f (n - 1 - j)) % 256 else 0

theorem fmtK_step {n k i : Nat} {f : Nat → Nat} (hk : k < n) (hi : i < n) : upd (fmtK n k f) (n - 1 - k) ((48 + f k) % 256) i = fmtK n (k + 1) f i := by
  unfold upd fmtK
  by_cases h1 : i = n - 1 - k
  · rw [if_pos h1, if_pos (by omega), show n - 1 - i = k by omega]
  · rw [if_neg h1]
    by_cases h2 : n - k ≤ i
    · rw [if_pos h2, if_pos (by omega)]
    · rw [if_neg h2, if_neg (by omega)]

set_option maxHeartbeats 400000 in
theorem format_pos (a0 : Option Addr) (n0 c0 : Nat) (f : Nat → Nat) (w : World) (hn0 : n0 ≤ 4294967296) (hpos : 0 < n0)
    (hf : Reads w a0 n0 f) (hb8 : ∀ j, f j ≤ 255) :
    Calls Ydsm.prog 19 #[.slice a0 n0 c0] w fun e w' => ∃ s, e = .returned (.string s) ∧ StrIs s n0 (fun i => (48 + f (n0 - 1 - i)) % 256) ∧ Below w.heap.size w w' := by
  obtain ⟨ba, oa, ha, hA⟩ := hf
  obtain ⟨rfl, hba⟩ := ha hpos
  clear ha
  have hne : ((n0 : Int) == 0) = false := beq_eq_false_iff_ne.2 (by omega)
  go_enter Ydsm.func19, Ydsm.ntmps19
  go_wp2_with (at_make; refine wpList_mk _ rfl _ _ 22 rfl 5 (.int .u8 0) 1 Ydsm.underlying22 Ydsm.info5 rfl _ _ _ _ n0 rfl rfl (by omega) (by omega) (by omega) (by unfold maxLen; omega) ?_)
  intro w1 ho hb1
  go_wp2
  go_loopw [5] (fun i wr => ∃ k : Nat, k ≤ n0 ∧ i = .int .i64 (k : Int) ∧ Owns wr 5 w.heap.size n0 (by8 (fmtK n0 k f)) ∧ Below w.heap.size w wr) (fun i _ => n0 - (intOf i).toNat)
  case atStart =>
    refine ⟨0, by omega, rfl, ho.congr fun i hi => ?_, hb1⟩
    unfold by8 fmtK
    rw [if_neg (by omega)]
    rfl
  case round =>
    obtain ⟨k, hk, rfl, hown, hnx⟩ := hrel
    clear ho hb1
    by_cases hlt : k < n0
    · have ga : wr.cell? ⟨ba, oa + k, none⟩ = some (.int .u8 (f k : Int)) := (hnx.cell (by exact hba)).trans (hA k hlt)
      have hc := hown.cell (n0 - 1 - k) (by omega)
      have hz := hown.frozen (n0 - 1 - k)
      have hj : (k : Int) < n0 := by omega
      have h8 := hb8 k
      have HST : Hid (Owns (wr.setCell ⟨w.heap.size, n0 - 1 - k, none⟩ (.int .u8 ((48 + (f k : Int)) % 256))) 5 w.heap.size n0 (by8 (fmtK n0 (k + 1) f))) := by
        show Owns _ _ _ _ _
        have := (hown.set8 (n0 - 1 - k) ((48 + f k) % 256)).congr (G := by8 (fmtK n0 (k + 1) f)) (fun i hi => by unfold by8; rw [fmtK_step hlt hi])
        simpa using this
      have HB : Hid (Below w.heap.size w (wr.setCell ⟨w.heap.size, n0 - 1 - k, none⟩ (.int .u8 ((48 + (f k : Int)) % 256)))) := hnx.setCell (p := ⟨w.heap.size, n0 - 1 - k, none⟩) (Nat.le_refl _) _
      clear hown hnx hA hb8
      go_wp2
      go_roundw
      case rel => exact ⟨k + 1, by omega, by go_num, HST.out, HB.out⟩
      case measure => simp [intOf]; omega
    · obtain rfl : k = n0 := by omega
      have hS := strOf k (fun i => (48 + f (k - 1 - i)) % 256) (fun i _ => by omega)
      have hcv := run_convert_bytes_arg (P := Ydsm.prog) wr 22 5 Ydsm.underlying22 Ydsm.underlying5 w.heap.size 0 k k ((List.range k).map fun i => (((48 + f (k - 1 - i)) % 256 : Nat) : Int)) (by simp)
        (fun i hi => by
          rw [Nat.zero_add, hown.cell i hi]
          simp [by8, fmtK, hi]) 9 Ydsm.underlying9
      obtain ⟨S, hSe⟩ : ∃ S, strOfNums ((List.range k).map fun i => (((48 + f (k - 1 - i)) % 256 : Nat) : Int)) = S := ⟨_, rfl⟩
      rw [hSe] at hcv hS
      clear hSe hown hA hb8
      go_wp2
      go_ret
      exact ⟨S, rfl, hS, hnx⟩

theorem format_nil (a0 : Option Addr) (c0 : Nat) (w : World) :
    Calls Ydsm.prog 19 #[.slice a0 0 c0] w fun e w' => e = .returned (.string ⟨#[48]⟩) ∧ Below w.heap.size w w' := by
  go_enter Ydsm.func19, Ydsm.ntmps19
  go_wp2
  go_ret
  exact ⟨rfl, Below.refl _ _⟩

end Go.Proofs.Ymbrds
