import Derived.Test.YmbrdtProg
import Derived.Test.YmbrdtBase
import Derived.Test.YmbrdtPlain
namespace Go.Proofs.Ymbrdt
open Go.RowKit

theorem canon_pos {n : Nat} {f : Nat → Nat} (h : Canon n f) : ∀ k m, k + (m + 1) = n → 0 < val (fun i => f (k + i)) (m + 1) := by
  intro k m hkm
  have h1 := h.2 (by omega)
  have h2 : 0 < f (k + m) := by
    rw [show k + m = n - 1 by omega]
    omega
  have h3 := val_split (fun i => f (k + i)) m 1
  have h4 : val (fun i => f (k + (m + i))) 1 = f (k + m) := by simp [val]
  rw [h3]
  simp only [h4]
  have := Nat.mul_pos (pow_pos10 m) h2
  omega

set_option maxHeartbeats 400000 in
theorem iis_true (a0 : Option Addr) (n0 c0 : Nat) (f : Nat → Nat) (w : World) (V : Nat) (hn0 : n0 ≤ 9223372036854775807) (hV : V ≤ 18446744073709551615)
    (hf : Reads w a0 n0 f) (hc : Canon n0 f) (hv : val f n0 = V) :
    Calls Ydtm.prog 29 #[.slice a0 n0 c0, .int .u64 (V : Int)] w fun e w' => e = .returned (.bool true) ∧ Below w.heap.size w w' := by
  obtain ⟨ba, oa, ha, hA⟩ := hf
  have C := mkHid hc
  clear hc
  go_enter Ydtm.func29, Ydtm.ntmps29
  go_wp2
  go_loopw [1, 5] (fun sv i wr => ∃ k m u : Nat, k + m = n0 ∧ i = .int .i64 (k : Int) ∧ sv = .int .u64 (u : Int) ∧ u ≤ 18446744073709551615 ∧ Hid (val (fun i => f (k + i)) m = u) ∧ Below w.heap.size w wr) (fun _ i _ => n0 - (intOf i).toNat)
  case atStart => exact ⟨0, n0, V, by omega, rfl, rfl, hV, mkHid (by rw [← hv]; exact val_congr n0 (fun i _ => by rw [Nat.zero_add])), Below.refl _ _⟩
  case round =>
    obtain ⟨k, m, u, hkm, rfl, rfl, hu1, hu, hnx⟩ := hrel
    cases m with
    | zero =>
      obtain rfl : u = 0 := hu.out.symm
      obtain rfl : k = n0 := by omega
      clear ha hA hV hu hkm hv
      go_wp2
      go_ret
      exact ⟨rfl, hnx⟩
    | succ m =>
      obtain ⟨rfl, hba⟩ := ha (by omega)
      have ga : wr.cell? ⟨ba, oa + k, none⟩ = some (.int .u8 (f k : Int)) := (hnx.cell (by exact hba)).trans (hA k (by omega))
      have hk : (k : Int) < n0 := by omega
      have h9 : f k ≤ 9 := C.out.1 k (by omega)
      have hp : 0 < u := by rw [← hu.out]; exact canon_pos C.out k m hkm
      obtain ⟨u', hu'⟩ : ∃ u', val (fun i => f (k + 1 + i)) m = u' := ⟨_, rfl⟩
      have hs : u = f k + 10 * u' := by
        rw [← hu.out, val_low, ← hu']
        congr 2
        exact val_congr m (fun i _ => by rw [Nat.add_assoc, Nat.add_comm i 1])
      have HU := mkHid hu'
      have e1 : (u : Int) % 10 = (f k : Int) := by omega
      have e2 : (u : Int) / 10 = (u' : Int) := by omega
      have e3 : ((u : Int) == 0) = false := beq_eq_false_iff_ne.2 (by omega)
      have e4 : u' ≤ 18446744073709551615 := by omega
      clear hu hA ha hv hs hu'
      go_wp2
      go_roundw
      case rel => exact ⟨k + 1, m, u', by omega, rfl, rfl, e4, HU, hnx⟩
      case measure => simp [intOf]; omega

end Go.Proofs.Ymbrdt
