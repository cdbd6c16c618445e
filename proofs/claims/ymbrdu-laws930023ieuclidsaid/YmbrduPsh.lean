import Derived.Test.YmbrduTrm
namespace Go.Proofs.Ymbrdu
open Go.RowKit

def psh (d : Nat) (f : Nat → Nat) : Nat → Nat := fun i => if i = 0 then d else f (i - 1)

theorem psh_val (d : Nat) (f : Nat → Nat) (n : Nat) : val (psh d f) (n + 1) = d + 10 * val f n := by
  rw [val_low]
  have e : val (fun i => psh d f (i + 1)) n = val f n := val_congr n (fun i _ => by simp [psh])
  rw [e]
  simp [psh]

theorem psh_digits {d n : Nat} {f : Nat → Nat} (hd : d ≤ 9) (hf : ∀ i, i < n → f i ≤ 9) (i : Nat) (hi : i < n + 1) : psh d f i ≤ 9 := by
  unfold psh
  by_cases h : i = 0
  · rw [if_pos h]; exact hd
  · rw [if_neg h]; exact hf _ (by omega)

set_option maxHeartbeats 400000 in
theorem pushLow_any (a0 : Option Addr) (n0 c0 d : Nat) (f : Nat → Nat) (w : World) (hn0 : n0 ≤ 1073741824) (hf : Reads w a0 n0 f) :
    Calls Ydum.prog 27 #[.slice a0 n0 c0, .int .u8 (d : Int)] w fun e w' => ∃ b, e = .returned (.slice (some ⟨b, 0, none⟩) (tl (psh d f) (n0 + 1)) (tl (psh d f) (n0 + 1))) ∧ w.heap.size ≤ b ∧ Owns w' 5 b (tl (psh d f) (n0 + 1)) (by8 (psh d f)) ∧ Below w.heap.size w w' := by
  obtain ⟨ba, oa, ha, hA⟩ := hf
  have HA := mkHid hA
  have Ha := mkHid ha
  clear hA ha
  have ncase : n0 = 0 ∨ 0 < n0 := by omega
  rcases ncase with rfl | hpos
  · go_enter Ydum.func27, Ydum.ntmps27
    go_wp2_with (at_make; refine wpList_mk _ rfl _ _ 24 rfl 5 (.int .u8 0) 1 Ydum.underlying24 Ydum.info5 rfl _ _ _ _ 1 rfl rfl (by omega) (by omega) (by omega) (by unfold maxLen; omega) ?_)
    intro w1 ho1 hb1
    have c1 := ho1.cell 0 (by omega)
    have z1 := ho1.frozen 0
    have ho1' : Owns w1 5 w.heap.size 1 (by8 (fun _ => 0)) := ho1
    have hst := ho1'.set8 0 d
    have hbs := hb1.setCell (p := ⟨w.heap.size, 0, none⟩) (Nat.le_refl _) (.int .u8 (d : Int))
    have HST := mkHid hst
    have HBS := mkHid hbs
    clear ho1 ho1' hst hbs hb1
    go_wp2_with (refine wpList_cp rfl (.tmp 14) (.tmp 15) 24 24 rfl 5 Ydum.underlying24 Ydum.info5s _ _ _ _ _ _ rfl rfl w.heap.size 1 1 0 _ (by8 f) HST.out (by simp) (by intro h; omega) (by omega) (fun _ => rfl) ?_)
    intro w2 ho2 hb2
    have ho3 : Owns w2 5 w.heap.size (0 + 1) (by8 (psh d f)) := ho2.congr fun i hi => by
      rw [spl_out _ _ (.inl (by omega))]
      obtain rfl : i = 0 := by omega
      simp [by8, upd, psh]
    have hb3 := HBS.out.trans hb2
    have hs3 := hb3.size
    clear ho2 hb2 HST HBS c1 z1
    go_wp2_with fail
    refine (trim_any _ _ _ (psh d f) _ (by omega) (Nat.le_refl _) (by omega) ho3.reads).mono ?_
    rintro e w4 ⟨b, rfl, hbge, ho4, hb4⟩
    have hb5 := below_later hb3 hb4 hs3
    clear ho3 hb3 hb4
    go_wp2
    go_ret
    exact ⟨b, rfl, by omega, ho4, hb5⟩
  · obtain ⟨rfl, hba⟩ := Ha.out hpos
    have q : ¬ n0 + 1 = 1 := by omega
    have q0 : ¬ n0 = 0 := by omega
    go_enter Ydum.func27, Ydum.ntmps27
    go_wp2_with (at_make; refine wpList_mk _ rfl _ _ 24 rfl 5 (.int .u8 0) 1 Ydum.underlying24 Ydum.info5 rfl _ _ _ _ (n0 + 1) rfl rfl (by omega) (by omega) (by omega) (by unfold maxLen; omega) ?_)
    intro w1 ho1 hb1
    have c1 := ho1.cell 0 (by omega)
    have z1 := ho1.frozen 0
    have ho1' : Owns w1 5 w.heap.size (n0 + 1) (by8 (fun _ => 0)) := ho1
    have hst := ho1'.set8 0 d
    have hbs := hb1.setCell (p := ⟨w.heap.size, 0, none⟩) (Nat.le_refl _) (.int .u8 (d : Int))
    have HST := mkHid hst
    have HBS := mkHid hbs
    have hpos2 : Hid (∀ j, j < n0 → (w1.setCell ⟨w.heap.size, 0, none⟩ (.int .u8 (d : Int))).cell? ⟨ba, oa + j, none⟩ = some (by8 f j)) := fun j hj => (hbs.cell (p := ⟨ba, oa + j, none⟩) hba).trans (HA.out j hj)
    clear ho1 ho1' hst hbs hb1
    go_wp2_with (refine wpList_cp rfl (.tmp 14) (.tmp 15) 24 24 rfl 5 Ydum.underlying24 Ydum.info5s _ _ _ _ _ _ rfl rfl w.heap.size 1 (n0 + 1) n0 _ (by8 f) HST.out (by simp) (fun _ => ⟨rfl, ba, oa, rfl, hpos2.out⟩) (by omega) (fun _ => rfl) ?_)
    intro w2 ho2 hb2
    have ho3 : Owns w2 5 w.heap.size (n0 + 1) (by8 (psh d f)) := ho2.congr fun i hi => by
      by_cases h : i = 0
      · subst h
        rw [spl_out _ _ (.inl (by omega))]
        simp [by8, upd, psh]
      · rw [spl_in _ _ (by omega) (by omega)]
        simp [by8, psh, h]
    have hb3 := HBS.out.trans hb2
    have hs3 := hb3.size
    clear ho2 hb2 HST HBS c1 z1 hpos2 HA Ha
    go_wp2_with fail
    refine (trim_any _ _ _ (psh d f) _ (by omega) (Nat.le_refl _) (by omega) ho3.reads).mono ?_
    rintro e w4 ⟨b, rfl, hbge, ho4, hb4⟩
    have hb5 := below_later hb3 hb4 hs3
    clear ho3 hb3 hb4
    go_wp2
    go_ret
    exact ⟨b, rfl, by omega, ho4, hb5⟩

end Go.Proofs.Ymbrdu
