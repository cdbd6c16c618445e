import Derived.Test.YmbrduTrm
namespace Go.Proofs.Ymbrdu
open Go.RowKit

def shf (k : Nat) (f : Nat → Nat) : Nat → Nat := fun i => if i < k then 0 else f (i - k)

set_option maxHeartbeats 400000 in
theorem shift_no (a0 : Option Addr) (n0 c0 : Nat) (k : Int) (w : World) (hk : k < 0 ∨ 1048576 < k) :
    Calls Ydum.prog 19 #[.slice a0 n0 c0, .int .i64 k] w fun e w' => e = .returned (.tuple #[.slice none 0 0, .bool false]) ∧ Below w.heap.size w w' := by
  rcases hk with hk | hk
  · have t1 : decide (k < 0) = true := by simp; omega
    clear hk
    go_enter Ydum.func19, Ydum.ntmps19
    go_wp2
    go_ret2
    exact ⟨rfl, Below.refl _ _⟩
  · have t1 : decide (k < 0) = false := by simp; omega
    have t2 : decide ((1048576 : Int) < k) = true := by simp; omega
    clear hk
    go_enter Ydum.func19, Ydum.ntmps19
    go_wp2
    go_ret2
    exact ⟨rfl, Below.refl _ _⟩

set_option maxHeartbeats 400000 in
theorem shift_yes (a0 : Option Addr) (n0 c0 k : Nat) (f : Nat → Nat) (w : World) (hn0 : n0 ≤ 1073741824) (hk : k ≤ 1048576) (hf : Reads w a0 n0 f) :
    Calls Ydum.prog 19 #[.slice a0 n0 c0, .int .i64 (k : Int)] w fun e w' => ∃ b, e = .returned (.tuple #[.slice (some ⟨b, 0, none⟩) (tl (shf k f) (n0 + k)) (tl (shf k f) (n0 + k)), .bool true]) ∧ w.heap.size ≤ b ∧
      Owns w' 5 b (tl (shf k f) (n0 + k)) (by8 (shf k f)) ∧ Below w.heap.size w w' := by
  obtain ⟨ba, oa, ha, hA⟩ := hf
  have HA := mkHid hA
  have Ha := mkHid ha
  clear hA ha
  have t1 : decide ((k : Int) < 0) = false := by simp
  have t2 : decide ((1048576 : Int) < (k : Int)) = false := by simp; omega
  have ncase : n0 = 0 ∨ 0 < n0 := by omega
  rcases ncase with rfl | hpos
  · have e0 : 0 + k = k := by omega
    go_enter Ydum.func19, Ydum.ntmps19
    go_wp2_with (at_make; refine wpList_mk _ rfl _ _ 24 rfl 5 (.int .u8 0) 1 Ydum.underlying24 Ydum.info5 rfl _ _ _ _ k rfl rfl (by omega) (by omega) (by omega) (by unfold maxLen; omega) ?_)
    intro w1 ho1 hb1
    go_wp2_with (refine wpList_cp rfl (.tmp 20) (.tmp 21) 24 24 rfl 5 Ydum.underlying24 Ydum.info5s _ _ _ _ _ _ rfl rfl w.heap.size k k 0 _ (by8 f) ho1 (by simp) (by intro h; omega) (by omega) (fun _ => rfl) ?_)
    intro w2 ho2 hb2
    have ho3 : Owns w2 5 w.heap.size k (by8 (shf k f)) := ho2.congr fun i hi => by
      rw [spl_out _ _ (.inl hi)]
      simp [by8, shf, hi]
    have hb3 := hb1.trans hb2
    have hs3 := hb3.size
    clear ho2 hb2 ho1 hb1
    go_wp2_with fail
    refine (trim_any _ _ _ (shf k f) _ (by omega) (Nat.le_refl _) (by omega) ho3.reads).mono ?_
    rintro e w4 ⟨b, rfl, hbge, ho4, hb4⟩
    have hb5 := below_later hb3 hb4 hs3
    clear ho3 hb3 hb4
    go_wp2
    go_ret2
    rw [e0]
    exact ⟨b, rfl, by omega, ho4, hb5⟩
  · obtain ⟨rfl, hba⟩ := Ha.out hpos
    have q : ¬ n0 + k = k := by omega
    have q0 : ¬ n0 = 0 := by omega
    go_enter Ydum.func19, Ydum.ntmps19
    go_wp2_with (at_make; refine wpList_mk _ rfl _ _ 24 rfl 5 (.int .u8 0) 1 Ydum.underlying24 Ydum.info5 rfl _ _ _ _ (n0 + k) rfl rfl (by omega) (by omega) (by omega) (by unfold maxLen; omega) ?_)
    intro w1 ho1 hb1
    have hpos2 : Hid (∀ j, j < n0 → w1.cell? ⟨ba, oa + j, none⟩ = some (by8 f j)) := fun j hj => (hb1.cell (p := ⟨ba, oa + j, none⟩) hba).trans (HA.out j hj)
    go_wp2_with (refine wpList_cp rfl (.tmp 20) (.tmp 21) 24 24 rfl 5 Ydum.underlying24 Ydum.info5s _ _ _ _ _ _ rfl rfl w.heap.size k (n0 + k) n0 _ (by8 f) ho1 (by simp) (fun _ => ⟨by simp, ba, oa, rfl, hpos2.out⟩) (by omega) (fun _ => rfl) ?_)
    intro w2 ho2 hb2
    have ho3 : Owns w2 5 w.heap.size (n0 + k) (by8 (shf k f)) := ho2.congr fun i hi => by
      by_cases h : i < k
      · rw [spl_out _ _ (.inl h)]
        simp [by8, shf, h]
      · rw [spl_in _ _ (by omega) (by omega)]
        simp [by8, shf, h]
    have hb3 := hb1.trans hb2
    have hs3 := hb3.size
    clear ho2 hb2 ho1 hb1 hpos2 HA Ha
    go_wp2_with fail
    refine (trim_any _ _ _ (shf k f) _ (by omega) (Nat.le_refl _) (by omega) ho3.reads).mono ?_
    rintro e w4 ⟨b, rfl, hbge, ho4, hb4⟩
    have hb5 := below_later hb3 hb4 hs3
    clear ho3 hb3 hb4
    go_wp2
    go_ret2
    exact ⟨b, rfl, by omega, ho4, hb5⟩

end Go.Proofs.Ymbrdu
