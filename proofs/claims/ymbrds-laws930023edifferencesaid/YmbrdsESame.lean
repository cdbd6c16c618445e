import Derived.Test.YmbrdsProg
import Derived.Test.YmbrdsBase
import Derived.Test.YmbrdsPlain
namespace Go.Proofs.Ymbrds
open Go.RowKit

set_option maxHeartbeats 400000 in
theorem esame_any (a0 a1 : Option Addr) (n0 c0 n1 c1 : Nat) (f g : Nat → Nat) (w : World) (hn0 : n0 ≤ 9223372036854775807) (hn1 : n1 ≤ 9223372036854775807)
    (hf : Reads w a0 n0 f) (hg : Reads w a1 n1 g) :
    Calls Ydsm.prog 26 #[.slice a0 n0 c0, .slice a1 n1 c1] w fun e w' => e = .returned (.bool (sameB n0 f n1 g)) ∧ Below w.heap.size w w' := by
  by_cases h1 : n0 = n1
  · subst h1
    obtain ⟨ba, oa, ha, hA⟩ := hf
    obtain ⟨bb, ob, hb, hB⟩ := hg
    have q : ((n0 : Int) != (n0 : Int)) = false := by simp
    go_enter Ydsm.func26, Ydsm.ntmps26
    go_wp2
    go_loopw [5] (fun i wr => ∃ k : Nat, k ≤ n0 ∧ i = .int .i64 (k : Int) ∧ Hid (∀ j, j < k → f j = g j) ∧ Below w.heap.size w wr) (fun i _ => n0 - (intOf i).toNat)
    case atStart => exact ⟨0, by omega, rfl, (show ∀ _, _ by intro j hj; omega), Below.refl _ _⟩
    case round =>
      obtain ⟨k, hk, rfl, hs, hnx⟩ := hrel
      by_cases hlt : k < n0
      · obtain ⟨rfl, hba⟩ := ha (by omega)
        obtain ⟨rfl, hbb⟩ := hb (by omega)
        have ga : wr.cell? ⟨ba, oa + k, none⟩ = some (.int .u8 (f k : Int)) := (hnx.cell (by exact hba)).trans (hA k hlt)
        have gb : wr.cell? ⟨bb, ob + k, none⟩ = some (.int .u8 (g k : Int)) := (hnx.cell (by exact hbb)).trans (hB k hlt)
        have hj : (k : Int) < n0 := by omega
        by_cases he : f k = g k
        · have hne : ((f k : Int) != (g k : Int)) = false := by simp [he]
          have hs' : Hid (∀ j, j < k + 1 → f j = g j) := by
            show ∀ _, _
            intro j hj
            by_cases e : j = k
            · rw [e]; exact he
            · exact hs.out j (by omega)
          clear hA hB ha hb hs he
          go_wp2
          go_quiet (fail)
          go_wp2
          go_roundw
          case rel => exact ⟨k + 1, by omega, by go_num, hs', bdrew hnx _⟩
          case measure => simp [intOf]; omega
        · have hne : ((f k : Int) != (g k : Int)) = true := by simp; omega
          have HF : Hid (sameB n0 f n0 g = false) := sameB_false (fun h => he (h.2 k hlt))
          clear hA hB ha hb hs
          go_wp2
          go_quiet (fail)
          go_wp2
          go_ret
          exact ⟨ret_b HF.out.symm, bdrew hnx _⟩
      · have HT : Hid (sameB n0 f n0 g = true) := sameB_true ⟨rfl, fun i hi => hs.out i (by omega)⟩
        clear hA hB ha hb hs
        go_wp2
        go_ret
        exact ⟨ret_b HT.out.symm, hnx⟩
  · have q : ((n0 : Int) != (n1 : Int)) = true := by simp; omega
    have HF : Hid (sameB n0 f n1 g = false) := sameB_false (fun h => h1 h.1)
    clear hf hg h1
    go_enter Ydsm.func26, Ydsm.ntmps26
    go_wp2
    go_ret
    exact ⟨ret_b HF.out.symm, Below.refl _ _⟩

end Go.Proofs.Ymbrds
