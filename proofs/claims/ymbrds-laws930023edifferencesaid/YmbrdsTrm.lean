import Derived.Test.YmbrdsProg
import Derived.Test.YmbrdsFu
import Derived.Test.YmbrdsPlainA
namespace Go.Proofs.Ymbrds
open Go.RowKit

set_option maxHeartbeats 400000 in
theorem trim_any (a0 : Option Addr) (n0 c0 : Nat) (f : Nat → Nat) (w : World) (hn0 : n0 ≤ 4294967296) (hnc : n0 ≤ c0) (_hc0 : c0 ≤ 9223372036854775807) (hf : Reads w a0 n0 f) :
    Calls Ydsm.prog 30 #[.slice a0 n0 c0] w fun e w' => ∃ g, e = .returned (.slice (some ⟨g, 0, none⟩) (tl f n0) (tl f n0)) ∧ w.heap.size ≤ g ∧ Owns w' 5 g (tl f n0) (by8 f) ∧ Below w.heap.size w w' := by
  obtain ⟨ba, oa, ha, hA⟩ := hf
  go_enter Ydsm.func30, Ydsm.ntmps30
  go_wp2
  go_loop [3] (fun i => ∃ t : Nat, t ≤ n0 ∧ i = .int .i64 (t : Int) ∧ Hid (∀ j, t ≤ j → j < n0 → f j = 0)) (fun i => (intOf i).toNat)
  case atStart => exact ⟨n0, by omega, rfl, (show ∀ _, _ by intro j h1 h2; omega)⟩
  case round =>
    obtain ⟨t, ht, rfl, hz⟩ := hrel
    by_cases hgo : 0 < t ∧ f (t - 1) = 0
    · obtain ⟨s, rfl⟩ : ∃ s, t = s + 1 := ⟨t - 1, by omega⟩
      obtain ⟨rfl, hba⟩ := ha (by omega)
      have ga := hA s (by omega)
      have hj : (s : Int) < n0 := by omega
      have gz : f s = 0 := by simpa using hgo.2
      have hq : ((f s : Int) == 0) = true := beq_iff_eq.2 (by omega)
      have hz' : Hid (∀ j, s ≤ j → j < n0 → f j = 0) := by
        show ∀ _, _
        intro j h1 h2
        by_cases e : j = s
        · rw [e]; exact gz
        · exact hz.out j (by omega) h2
      have es : ((s + 1 : Nat) : Int) - 1 = (s : Int) := by omega
      clear hA ha hz hgo gz
      go_wp2
      go_round
      case rel => exact ⟨s, by omega, by go_num, hz'⟩
      case measure => simp [intOf]
    · have het : Hid (tl f n0 = t) := tl_uniq ht hz.out (fun h1 h2 => hgo ⟨h1, h2⟩)
      have stay : (¬ 0 < t) ∨ (0 < t ∧ ¬ f (t - 1) = 0) := by omega
      clear hz hgo
      rcases stay with h1 | ⟨h1, h2⟩
      · obtain rfl : t = 0 := by omega
        go_wp2_with (at_make; refine wpList_mk _ rfl _ _ 23 rfl 5 (.int .u8 0) 1 Ydsm.underlying23 Ydsm.info5 rfl _ _ _ _ 0 rfl rfl (by omega) (by omega) (by omega) (by unfold maxLen; omega) ?_)
        intro w1 ho1 hb1
        go_wp2_with (refine wpList_cp rfl (.tmp 21) (.tmp 24) 23 23 rfl 5 Ydsm.underlying23 Ydsm.info5s _ _ _ _ _ _ rfl rfl w.heap.size 0 0 0 _ (by8 f) ho1 (by simp) (by intro h; omega) (by omega) (fun _ => rfl) ?_)
        intro w2 ho2 hb2
        have hc := hb1.trans hb2
        have ho3 : Owns w2 5 w.heap.size (tl f n0) (by8 f) := by rw [het.out]; exact ho2.congr fun i hi => by omega
        clear ho1 ho2 hb1 hb2
        go_wp2
        go_ret
        rw [het.out] at ho3 ⊢
        exact ⟨w.heap.size, rfl, Nat.le_refl _, ho3, hc⟩
      · obtain ⟨s, rfl⟩ : ∃ s, t = s + 1 := ⟨t - 1, by omega⟩
        obtain ⟨rfl, hba⟩ := ha (by omega)
        have ga := hA s (by omega)
        have hj : (s : Int) < n0 := by omega
        have hq : ((f s : Int) == 0) = false := beq_eq_false_iff_ne.2 (by simp at h2; omega)
        have es : ((s + 1 : Nat) : Int) - 1 = (s : Int) := by omega
        have HA : Hid (∀ i, i < n0 → w.cell? ⟨ba, oa + i, none⟩ = some (.int .u8 (f i : Int))) := hA
        clear hA ha h2
        go_wp2_with (at_make; refine wpList_mk _ rfl _ _ 23 rfl 5 (.int .u8 0) 1 Ydsm.underlying23 Ydsm.info5 rfl _ _ _ _ (s + 1) rfl rfl (by omega) (by omega) (by omega) (by unfold maxLen; omega) ?_)
        intro w1 ho1 hb1
        have hpos : Hid (∀ j, j < s + 1 → w1.cell? ⟨ba, oa + j, none⟩ = some (by8 f j)) := fun j hj => (hb1.cell (by exact hba)).trans (HA.out j (by omega))
        go_wp2_with (refine wpList_cp rfl (.tmp 21) (.tmp 24) 23 23 rfl 5 Ydsm.underlying23 Ydsm.info5s _ _ _ _ _ _ rfl rfl w.heap.size 0 (s + 1) (s + 1) _ (by8 f) ho1 (Nat.min_self _).symm (fun _ => ⟨rfl, ba, oa, rfl, hpos.out⟩) (by omega) (fun _ => rfl) ?_)
        intro w2 ho2 hb2
        have hc := hb1.trans hb2
        have ho3 : Owns w2 5 w.heap.size (tl f n0) (by8 f) := by
          rw [het.out]
          refine ho2.congr fun i hi => ?_
          rw [spl_in _ _ (by omega) (by omega), Nat.sub_zero]
        clear ho1 ho2 hb1 hb2 ga hpos HA
        go_wp2
        go_ret
        rw [het.out] at ho3 ⊢
        exact ⟨w.heap.size, rfl, Nat.le_refl _, ho3, hc⟩

end Go.Proofs.Ymbrds
