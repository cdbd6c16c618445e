import Derived.Test.YmbrduProg
import Derived.Test.YmbrduBase
import Derived.Test.YmbrduPlain
namespace Go.Proofs.Ymbrdu
open Go.RowKit

def lessB (n : Nat) (f : Nat → Nat) (m : Nat) (g : Nat → Nat) : Bool := decide (cmpF n f m g = -1)

theorem lessB_val {n m : Nat} {f g : Nat → Nat} (hf : Canon n f) (hg : Canon m g) (h : val f n < val g m) : lessB n f m g = true := by
  unfold lessB
  rw [cmpF_sgn hf hg, sgn, if_pos h]
  rfl

set_option maxHeartbeats 400000 in
theorem iless_any (a0 a1 : Option Addr) (n0 c0 n1 c1 : Nat) (f g : Nat → Nat) (w : World) (hn0 : n0 ≤ 9223372036854775807) (hn1 : n1 ≤ 9223372036854775807)
    (hf : Reads w a0 n0 f) (hg : Reads w a1 n1 g) :
    Calls Ydum.prog 17 #[.slice a0 n0 c0, .slice a1 n1 c1] w fun e w' => e = .returned (.bool (lessB n0 f n1 g)) ∧ Below w.heap.size w w' := by
  by_cases h1 : n0 < n1
  · have hb : Hid (lessB n0 f n1 g = true) := by show _ = _; unfold lessB cmpF; rw [if_pos h1]; rfl
    have q : ((n0 : Int) != (n1 : Int)) = true := by simp; omega
    clear hf hg
    go_enter Ydum.func17, Ydum.ntmps17
    go_wp2
    go_ret
    exact ⟨ret_b hb.out.symm, Below.refl _ _⟩
  by_cases h2 : n1 < n0
  · have hb : Hid (lessB n0 f n1 g = false) := by show _ = _; unfold lessB cmpF; rw [if_neg h1, if_pos h2]; rfl
    have q : ((n0 : Int) != (n1 : Int)) = true := by simp; omega
    clear hf hg
    go_enter Ydum.func17, Ydum.ntmps17
    go_wp2
    go_ret
    exact ⟨ret_b hb.out.symm, Below.refl _ _⟩
  obtain rfl : n0 = n1 := by omega
  have hb : Hid (lessB n0 f n0 g = decide (cmpDown f g n0 = -1)) := by show _ = _; unfold lessB cmpF; rw [if_neg h1, if_neg h1]
  have q : ((n0 : Int) != (n0 : Int)) = false := by simp
  obtain ⟨ba, oa, ha, hA⟩ := hf
  obtain ⟨bb, ob, hbb, hB⟩ := hg
  clear h1 h2 hn1
  go_enter Ydum.func17, Ydum.ntmps17
  go_wp2
  go_loopw [5] (fun i wr => ∃ k : Nat, k ≤ n0 ∧ i = .int .i64 ((k : Int) - 1) ∧ Hid (cmpDown f g k = cmpDown f g n0) ∧ Below w.heap.size w wr) (fun i _ => (intOf i + 1).toNat)
  case atStart => exact ⟨n0, Nat.le_refl _, rfl, (show _ = _ by rfl), Below.refl _ _⟩
  case round =>
    obtain ⟨k, hk, rfl, HC, hnx⟩ := hrel
    cases k with
    | zero =>
      clear ha hbb hA hB
      go_wp2
      go_ret
      exact ⟨ret_b (by rw [hb.out, ← HC.out]; rfl), hnx⟩
    | succ j =>
      obtain ⟨rfl, hba⟩ := ha (by omega)
      obtain ⟨rfl, hbw⟩ := hbb (by omega)
      have ga : wr.cell? ⟨ba, oa + j, none⟩ = some (.int .u8 (f j : Int)) := (hnx.cell (by exact hba)).trans (hA j (by omega))
      have gb : wr.cell? ⟨bb, ob + j, none⟩ = some (.int .u8 (g j : Int)) := (hnx.cell (by exact hbw)).trans (hB j (by omega))
      have hj : (j : Int) < n0 := by omega
      clear hA hB ha hbb
      rw [show ((j + 1 : Nat) : Int) - 1 = (j : Int) by omega]
      by_cases t0 : f j = g j
      · have t1 : ((f j : Int) != (g j : Int)) = false := by simp [t0]
        have HC' : Hid (cmpDown f g j = cmpDown f g n0) := by show _ = _; rw [← HC.out, cmpDown, if_neg (by omega), if_neg (by omega)]
        clear t0
        go_wp2
        go_quiet (fail)
        go_wp2
        go_roundw
        case rel => exact ⟨j, by omega, rfl, HC', bdrew hnx _⟩
        case measure => simp [intOf]
      · have t1 : ((f j : Int) != (g j : Int)) = true := by simp; omega
        have fin : Hid (lessB n0 f n0 g = decide ((f j : Int) < (g j : Int))) := by
          show _ = _
          rw [hb.out, ← HC.out, cmpDown]
          by_cases t2 : f j < g j
          · rw [if_pos t2]; simp; omega
          · rw [if_neg t2, if_pos (by omega)]; simp; omega
        clear HC t0 hb
        go_wp2
        go_quiet (fail)
        go_wp2
        go_quiet (fail)
        go_wp2
        go_ret
        exact ⟨ret_b (by rw [fin.out]; simp), bdrew (bdrew hnx _) _⟩

end Go.Proofs.Ymbrdu
