import Derived.Test.YmbrduJShifted
import Derived.WalkSpells
namespace Go.Proofs.Ymbrdu
open Go.RowKit

set_option maxHeartbeats 1000000 in
theorem law_JExact (w : World) (a0 : Option Addr) (n0 c0 : Nat) (f0 : Nat → Nat) (r0 : Reads w a0 n0 f0) (b0 : ∀ j, f0 j ≤ 255) (_l0 : n0 ≤ c0) (_m0 : c0 ≤ 9223372036854775807) (a1 : Int) (_h1 : -9223372036854775808 ≤ a1 ∧ a1 ≤ 9223372036854775807) :
    Calls Ydum.prog 5 #[.slice a0 n0 c0, .int .i64 a1] w fun e w' => e = .returned (.bool true) ∧ Below w.heap.size w w' := by
  by_cases h0 : 1024 < n0
  · go_enter Ydum.func5, Ydum.ntmps5
    go_wp2
    go_ret
    exact ⟨rfl, Below.refl _ _⟩
  have R0 := mkHid r0
  have B8 := mkHid b0
  obtain ⟨ba, oa, ha, hA⟩ := r0
  have HA := mkHid hA
  have Ha := mkHid ha
  clear hA ha b0
  have hnl := fun (wx : World) (a : Option Addr) (n c : Nat) => run_neq_slice_nil_any (P := Ydum.prog) wx 24 5 a n c 0 0 Ydum.underlying24
  go_enter Ydum.func5, Ydum.ntmps5
  go_wp2_with (at_make; refine wpList_mk _ rfl _ _ 24 rfl 5 (.int .u8 0) 1 Ydum.underlying24 Ydum.info5 rfl _ _ _ _ n0 rfl rfl (by omega) (by omega) (by omega) (by unfold maxLen; omega) ?_)
  intro w1 ho1 hb1
  have hpos2 : Hid (0 < n0 → a0 = some ⟨ba, oa, none⟩ ∧ ∀ j, j < n0 → w1.cell? ⟨ba, oa + j, none⟩ = some (by8 f0 j)) := fun hp => ⟨(Ha.out hp).1, fun j hj => (hb1.cell (p := ⟨ba, oa + j, none⟩) (Ha.out hp).2).trans (HA.out j hj)⟩
  go_wp2_with (refine wpList_cp rfl (.tmp 16) (.tmp 17) 24 22 rfl 5 Ydum.underlying24 Ydum.info5s _ _ _ _ _ _ rfl rfl w.heap.size 0 n0 n0 _ (by8 f0) ho1 (Nat.min_self _).symm (fun hp => ⟨rfl, ba, oa, (hpos2.out hp).1, (hpos2.out hp).2⟩) (by omega) (fun _ => rfl) ?_)
  intro w2 ho2 hb2
  have ho3 : Owns w2 5 w.heap.size n0 (by8 f0) := ho2.congr fun i hi => by rw [spl_in _ _ (by omega) (by omega), Nat.sub_zero]
  have hb3 := hb1.trans hb2
  clear ho2 ho1 hb1 hb2 hpos2
  by_cases hin : 0 ≤ a1 ∧ a1 ≤ 1048576
  · obtain ⟨k, rfl⟩ : ∃ k : Nat, a1 = (k : Int) := ⟨a1.toNat, by omega⟩
    have hkb : k ≤ 1048576 := by omega
    have t1 : decide ((k : Int) < 0) = false := by simp
    have t2 : decide ((1048576 : Int) < (k : Int)) = false := by simp; omega
    clear hin
    go_wp2_with fail
    refine (shift_yes _ _ _ k f0 _ (by omega) hkb ho3.reads).mono ?_
    rintro e w4 ⟨bO, rfl, hgO, hoO, hb4⟩
    have hb5 := below_later hb3 hb4 hb3.size
    have r5 := R0.out.later hb5
    have htl := tl_le (shf k f0) (n0 + k)
    have hne := ho3.lt
    replace ho3 := ho3.later hb4
    clear hb3 hb4
    go_wp2_with fail
    refine (jshifted_any _ _ _ _ _ _ k (shf k f0) f0 _ (by omega) (by omega) (by omega) hoO.reads r5 (shifted_ok f0 n0 k)).mono ?_
    rintro e w6 ⟨rfl, hb6⟩
    have hb7 := below_size hb5 hb6
    replace ho3 := ho3.later hb6
    replace hoO := hoO.later hb6
    have S8 : Hid (∀ j, shf k f0 j ≤ 255) := fun j => by
      unfold shf
      have := B8.out (j - k)
      split <;> omega
    clear hb5 hb6 r5
    generalize shf k f0 = S at *
    generalize tl S (n0 + k) = t at *
    go_wp2
    go_loopw [8] (fun i wr => ∃ (j : Nat) (S : Nat → Nat), j ≤ t ∧ i = .int .i64 (j : Int) ∧ Hid (∀ m, S m ≤ 255) ∧ Owns wr 5 bO t (by8 S) ∧ Owns wr 5 w.heap.size n0 (by8 f0) ∧ Below w.heap.size w wr) (fun i _ => t - (intOf i).toNat)
    case atStart => exact ⟨0, S, by omega, rfl, S8, hoO, ho3, hb7⟩
    case round =>
      obtain ⟨j, S, hj, rfl, hS, hoO, hoB, hnx⟩ := hrel
      clear ho3 hb7 S8
      by_cases hlt : j < t
      · have c1 : wr.cell? ⟨bO, j, none⟩ = some (.int .u8 (S j : Int)) := hoO.cell j hlt
        have z1 := hoO.frozen j
        have s8 := hS.out j
        have j1 : (j : Int) < t := by omega
        have e1 : (255 : Int) - (S j : Int) = ((255 - S j : Nat) : Int) := by omega
        have hst := hoO.set8 j (255 - S j)
        have hob := hoB.otherCell ⟨bO, j, none⟩ (.int .u8 ((255 - S j : Nat) : Int)) (by simp; omega)
        have hbs := hnx.setCell (p := ⟨bO, j, none⟩) (by simp; omega) (.int .u8 ((255 - S j : Nat) : Int))
        rw [← e1] at hst hob hbs
        have HST := mkHid hst
        have HOB := mkHid hob
        have HBS := mkHid hbs
        have HS' : Hid (∀ m, upd S j (255 - S j) m ≤ 255) := fun m => by
          have := hS.out m
          unfold upd
          split <;> omega
        clear hst hob hbs hoO hoB hnx hS e1 HA Ha
        go_wp2
        go_roundw
        case rel => exact ⟨j + 1, _, by omega, by go_num, HS', HST.out, HOB.out, HBS.out⟩
        case measure => simp [intOf]; omega
      · have tj : ¬ (j : Int) < t := by omega
        clear hS hoO
        go_wp2
        go_loopw [9] (fun i wr => ∃ k : Nat, k ≤ n0 ∧ i = .int .i64 (k : Int) ∧ Owns wr 5 w.heap.size n0 (by8 f0) ∧ Below w.heap.size w wr) (fun i _ => n0 - (intOf i).toNat)
        case atStart => exact ⟨0, by omega, rfl, hoB, hnx⟩
        case round =>
          obtain ⟨j, hj, rfl, hoB, hnx⟩ := hrel
          by_cases hlt : j < n0
          · obtain ⟨rfl, hba⟩ := Ha.out (by omega)
            have ga : wr.cell? ⟨ba, oa + j, none⟩ = some (.int .u8 (f0 j : Int)) := (hnx.cell (by exact hba)).trans (HA.out j hlt)
            have gb : wr.cell? ⟨w.heap.size, j, none⟩ = some (.int .u8 (f0 j : Int)) := hoB.cell j hlt
            have j1 : (j : Int) < n0 := by omega
            have q3 : ((f0 j : Int) != (f0 j : Int)) = false := by simp
            clear HA Ha
            go_wp2
            go_quiet (fail)
            go_wp2
            go_roundw
            case rel => exact ⟨j + 1, by omega, by go_num, hoB.drewN _, bdrew hnx _⟩
            case measure => simp [intOf]; omega
          · have tj : ¬ (j : Int) < n0 := by omega
            clear HA Ha
            go_wp2
            go_ret
            exact ⟨rfl, hnx⟩
  · have out1 : a1 < 0 ∨ 1048576 < a1 := by omega
    clear hin
    rcases out1 with o1 | o1
    · have t1 : decide (a1 < 0) = true := by simp; omega
      go_wp2_with fail
      refine (shift_no _ _ _ _ _ (by omega)).mono ?_
      rintro e w4 ⟨rfl, hb4⟩
      have hnx := below_later hb3 hb4 hb3.size
      have hoB := ho3.later hb4
      clear ho3 hb3 hb4
      go_wp2
      go_loopw [8] (fun i wr => i = .int .i64 0 ∧ Owns wr 5 w.heap.size n0 (by8 f0) ∧ Below w.heap.size w wr) (fun _ _ => 0)
      case atStart => exact ⟨rfl, hoB, hnx⟩
      case round =>
        obtain ⟨rfl, hoB, hnx⟩ := hrel
        go_wp2
        go_loopw [9] (fun i wr => ∃ k : Nat, k ≤ n0 ∧ i = .int .i64 (k : Int) ∧ Owns wr 5 w.heap.size n0 (by8 f0) ∧ Below w.heap.size w wr) (fun i _ => n0 - (intOf i).toNat)
        case atStart => exact ⟨0, by omega, rfl, hoB, hnx⟩
        case round =>
          obtain ⟨j, hj, rfl, hoB, hnx⟩ := hrel
          by_cases hlt : j < n0
          · obtain ⟨rfl, hba⟩ := Ha.out (by omega)
            have ga : wr.cell? ⟨ba, oa + j, none⟩ = some (.int .u8 (f0 j : Int)) := (hnx.cell (by exact hba)).trans (HA.out j hlt)
            have gb : wr.cell? ⟨w.heap.size, j, none⟩ = some (.int .u8 (f0 j : Int)) := hoB.cell j hlt
            have j1 : (j : Int) < n0 := by omega
            have q3 : ((f0 j : Int) != (f0 j : Int)) = false := by simp
            clear HA Ha
            go_wp2
            go_quiet (fail)
            go_wp2
            go_roundw
            case rel => exact ⟨j + 1, by omega, by go_num, hoB.drewN _, bdrew hnx _⟩
            case measure => simp [intOf]; omega
          · have tj : ¬ (j : Int) < n0 := by omega
            clear HA Ha
            go_wp2
            go_ret
            exact ⟨rfl, hnx⟩
    · have t1 : decide (a1 < 0) = false := by simp; omega
      have t2 : decide ((1048576 : Int) < a1) = true := by simp; omega
      go_wp2_with fail
      refine (shift_no _ _ _ _ _ (by omega)).mono ?_
      rintro e w4 ⟨rfl, hb4⟩
      have hnx := below_later hb3 hb4 hb3.size
      have hoB := ho3.later hb4
      clear ho3 hb3 hb4
      go_wp2
      go_loopw [8] (fun i wr => i = .int .i64 0 ∧ Owns wr 5 w.heap.size n0 (by8 f0) ∧ Below w.heap.size w wr) (fun _ _ => 0)
      case atStart => exact ⟨rfl, hoB, hnx⟩
      case round =>
        obtain ⟨rfl, hoB, hnx⟩ := hrel
        go_wp2
        go_loopw [9] (fun i wr => ∃ k : Nat, k ≤ n0 ∧ i = .int .i64 (k : Int) ∧ Owns wr 5 w.heap.size n0 (by8 f0) ∧ Below w.heap.size w wr) (fun i _ => n0 - (intOf i).toNat)
        case atStart => exact ⟨0, by omega, rfl, hoB, hnx⟩
        case round =>
          obtain ⟨j, hj, rfl, hoB, hnx⟩ := hrel
          by_cases hlt : j < n0
          · obtain ⟨rfl, hba⟩ := Ha.out (by omega)
            have ga : wr.cell? ⟨ba, oa + j, none⟩ = some (.int .u8 (f0 j : Int)) := (hnx.cell (by exact hba)).trans (HA.out j hlt)
            have gb : wr.cell? ⟨w.heap.size, j, none⟩ = some (.int .u8 (f0 j : Int)) := hoB.cell j hlt
            have j1 : (j : Int) < n0 := by omega
            have q3 : ((f0 j : Int) != (f0 j : Int)) = false := by simp
            clear HA Ha
            go_wp2
            go_quiet (fail)
            go_wp2
            go_roundw
            case rel => exact ⟨j + 1, by omega, by go_num, hoB.drewN _, bdrew hnx _⟩
            case measure => simp [intOf]; omega
          · have tj : ¬ (j : Int) < n0 := by omega
            clear HA Ha
            go_wp2
            go_ret
            exact ⟨rfl, hnx⟩

end Go.Proofs.Ymbrdu
