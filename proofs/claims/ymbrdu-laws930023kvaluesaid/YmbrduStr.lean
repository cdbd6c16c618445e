import Derived.Test.YmbrduFu
namespace Go.Proofs.Ymbrdu
open Go.RowKit

def StrIs (s : ByteArray) (n : Nat) (g : Nat → Nat) : Prop := s.size = n ∧ ∀ (i : Nat) (h : i < s.size), (s[i]'h).toNat = g i

theorem strOf (n : Nat) (g : Nat → Nat) (hg : ∀ i, i < n → g i ≤ 255) : StrIs (strOfNums ((List.range n).map fun i => ((g i : Nat) : Int))) n g := by
  refine ⟨by rw [strOfNums_size]; simp, fun i h => ?_⟩
  have hi : i < n := by rw [strOfNums_size] at h; simpa using h
  have h1 := hg i hi
  have e : (strOfNums ((List.range n).map fun i => ((g i : Nat) : Int)))[i]'h = UInt8.ofNat (g i) := by
    show (strOfNums ((List.range n).map fun i => ((g i : Nat) : Int))).data[i]'h = _
    simp [strOfNums]
  rw [e]
  simp
  omega

def chr (s : ByteArray) (i : Nat) : Nat := if h : i < s.size then (s[i]'h).toNat else 0

theorem strIs_chr (s : ByteArray) : StrIs s s.size (chr s) := ⟨rfl, fun i h => by unfold chr; rw [dif_pos h]⟩

theorem chr_le (s : ByteArray) (i : Nat) : chr s i ≤ 255 := by
  unfold chr
  split
  · have := (s[i]).toNat_lt
    omega
  · omega

end Go.Proofs.Ymbrdu
