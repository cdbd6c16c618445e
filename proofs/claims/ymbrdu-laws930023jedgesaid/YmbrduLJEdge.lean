import Derived.Test.YmbrduJShifted
import Derived.WalkSpells
namespace Go.Proofs.Ymbrdu
open Go.RowKit

set_option maxHeartbeats 1000000 in
theorem law_JEdge (w : World) (a0 : Option Addr) (n0 c0 : Nat) (f0 : Nat → Nat) (r0 : Reads w a0 n0 f0) (_b0 : ∀ j, f0 j ≤ 255) (_l0 : n0 ≤ c0) (_m0 : c0 ≤ 9223372036854775807) (x1 : Nat) (h1 : x1 ≤ 255) :
    Calls Ydum.prog 7 #[.slice a0 n0 c0, .int .u8 (x1 : Int)] w fun e w' => e = .returned (.bool true) ∧ Below w.heap.size w w' := by
  by_cases h0 : 1024 < n0
  · go_enter Ydum.func7, Ydum.ntmps7
    go_wp2
    go_ret
    exact ⟨rfl, Below.refl _ _⟩
  obtain ⟨s, hs⟩ : ∃ s, x1 % 5 = s := ⟨_, rfl⟩
  have Es : (x1 : Int) % 5 = (s : Int) := by omega
  have s4 : s ≤ 4 := by omega
  clear hs
  have R0 := mkHid r0
  obtain ⟨ba, oa, ha, hA⟩ := r0
  have HA := mkHid hA
  have Ha := mkHid ha
  clear hA ha
  have hnl := fun (wx : World) (a : Option Addr) (n c : Nat) => Lib.run_eql_slice_nil (P := Ydum.prog) wx 24 5 a n c 0 0 Ydum.underlying24
  go_enter Ydum.func7, Ydum.ntmps7
  go_wp2_with (at_make; refine wpList_mk _ rfl _ _ 24 rfl 5 (.int .u8 0) 1 Ydum.underlying24 Ydum.info5 rfl _ _ _ _ n0 rfl rfl (by omega) (by omega) (by omega) (by unfold maxLen; omega) ?_)
  intro w1 ho1 hb1
  have hpos2 : Hid (0 < n0 → a0 = some ⟨ba, oa, none⟩ ∧ ∀ j, j < n0 → w1.cell? ⟨ba, oa + j, none⟩ = some (by8 f0 j)) := fun hp => ⟨(Ha.out hp).1, fun j hj => (hb1.cell (p := ⟨ba, oa + j, none⟩) (Ha.out hp).2).trans (HA.out j hj)⟩
  go_wp2_with (refine wpList_cp rfl (.tmp 19) (.tmp 20) 24 22 rfl 5 Ydum.underlying24 Ydum.info5s _ _ _ _ _ _ rfl rfl w.heap.size 0 n0 n0 _ (by8 f0) ho1 (Nat.min_self _).symm (fun hp => ⟨rfl, ba, oa, (hpos2.out hp).1, (hpos2.out hp).2⟩) (by omega) (fun _ => rfl) ?_)
  intro w2 ho2 hb2
  have ho3 : Owns w2 5 w.heap.size n0 (by8 f0) := ho2.congr fun i hi => by rw [spl_in _ _ (by omega) (by omega), Nat.sub_zero]
  have hb3 := hb1.trans hb2
  clear ho2 ho1 hb1 hb2 hpos2
  by_cases hov : 2 < s
  · have t1 : decide ((0 : Int) < (s : Int) - 2) = true := by simp; omega
    go_wp2_with fail
    refine (shift_no _ _ _ _ _ (by omega)).mono ?_
    rintro e w4 ⟨rfl, hb4⟩
    have hb5 := below_later hb3 hb4 hb3.size
    clear ho3 hb3 hb4 HA Ha
    go_wp2
    go_ret
    exact ⟨rfl, hb5⟩
  · have t1 : decide ((0 : Int) < (s : Int) - 2) = false := by simp; omega
    obtain ⟨k, hk⟩ : ∃ k, k = 1048574 + s := ⟨_, rfl⟩
    have Ek : (1048576 : Int) + ((s : Int) - 2) = (k : Int) := by omega
    have hkb : k ≤ 1048576 := by omega
    clear hk
    go_wp2_with fail
    refine (shift_yes _ _ _ k f0 _ (by omega) hkb ho3.reads).mono ?_
    rintro e w4 ⟨bO, rfl, hgO, hoO, hb4⟩
    have hb5 := below_later hb3 hb4 hb3.size
    have r5 := R0.out.later hb5
    have htl := tl_le (shf k f0) (n0 + k)
    clear ho3 hb3 hb4 HA Ha
    go_wp2_with fail
    refine (jshifted_any _ _ _ _ _ _ k (shf k f0) f0 _ (by omega) (by omega) (by omega) hoO.reads r5 (shifted_ok f0 n0 k)).mono ?_
    rintro e w6 ⟨rfl, hb6⟩
    have hb7 := below_size hb5 hb6
    clear hoO hb5 hb6 r5
    go_wp2
    go_ret
    exact ⟨rfl, hb7⟩

end Go.Proofs.Ymbrdu
