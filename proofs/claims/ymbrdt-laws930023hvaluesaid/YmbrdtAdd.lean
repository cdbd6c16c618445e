import Derived.Test.YmbrdtTrm
namespace Go.Proofs.Ymbrdt
open Go.RowKit

set_option maxHeartbeats 1000000 in
theorem add_any (a0 a1 : Option Addr) (n0 c0 n1 c1 n : Nat) (f g : Nat → Nat) (w : World) (hn0 : n0 ≤ 1073741824) (hn1 : n1 ≤ 1073741824) (hn : n = max n0 n1)
    (hf : Reads w a0 n0 f) (hg : Reads w a1 n1 g) (hf8 : ∀ j, f j ≤ 255) (hg8 : ∀ j, g j ≤ 255) :
    Calls Ydtm.prog 24 #[.slice a0 n0 c0, .slice a1 n1 c1] w fun e w' => ∃ b, e = .returned (.slice (some ⟨b, 0, none⟩) (tl (addF (pad n0 f) (pad n1 g) n) (n + 1)) (tl (addF (pad n0 f) (pad n1 g) n) (n + 1))) ∧ w.heap.size ≤ b ∧
      Owns w' 5 b (tl (addF (pad n0 f) (pad n1 g) n) (n + 1)) (by8 (addF (pad n0 f) (pad n1 g) n)) ∧ Below w.heap.size w w' := by
  obtain ⟨ba, oa, ha, hA⟩ := hf
  obtain ⟨bb, ob, hb, hB⟩ := hg
  obtain ⟨P, hP⟩ : ∃ P, pad n0 f = P := ⟨_, rfl⟩
  obtain ⟨Q, hQ⟩ : ∃ Q, pad n1 g = Q := ⟨_, rfl⟩
  have p1 : Hid (∀ i, i < n0 → P i = f i) := fun i hi => by rw [← hP]; exact pad_in f hi
  have p0 : Hid (∀ i, ¬ i < n0 → P i = 0) := fun i hi => by rw [← hP]; exact pad_out f hi
  have q1 : Hid (∀ i, i < n1 → Q i = g i) := fun i hi => by rw [← hQ]; exact pad_in g hi
  have q0 : Hid (∀ i, ¬ i < n1 → Q i = 0) := fun i hi => by rw [← hQ]; exact pad_out g hi
  have P8 : ∀ i, P i ≤ 255 := fun i => by rw [← hP]; unfold pad; split; exact hf8 i; omega
  have Q8 : ∀ i, Q i ≤ 255 := fun i => by rw [← hQ]; unfold pad; split; exact hg8 i; omega
  have CY : Hid (∀ k, cy P Q k ≤ 56) := cy_le P8 Q8
  rw [hP, hQ]
  clear hP hQ P8 Q8
  have HF8 : Hid (∀ j, f j ≤ 255) := hf8
  have HG8 : Hid (∀ j, g j ≤ 255) := hg8
  have ncase : (n0 < n1 ∧ n = n1) ∨ (¬ n0 < n1 ∧ n = n0) := by omega
  clear hf8 hg8
  have HA : Hid (∀ i, i < n0 → w.cell? ⟨ba, oa + i, none⟩ = some (.int .u8 (f i : Int))) := hA
  have HB : Hid (∀ i, i < n1 → w.cell? ⟨bb, ob + i, none⟩ = some (.int .u8 (g i : Int))) := hB
  have Ha : Hid (0 < n0 → a0 = some ⟨ba, oa, none⟩ ∧ ba < w.heap.size) := ha
  have Hb : Hid (0 < n1 → a1 = some ⟨bb, ob, none⟩ ∧ bb < w.heap.size) := hb
  clear hA hB ha hb hn
  have hnb : n ≤ 1073741824 ∧ n0 ≤ n ∧ n1 ≤ n := by omega
  obtain ⟨hnb, hn0n, hn1n⟩ := hnb
  have hkk : Hid (∀ k, k < n → ¬ k < n0 → k < n1) := fun k h1 h2 => by omega
  have ncase2 : (n0 < n1 ∧ (n1 : Int) = (n : Int)) ∨ (¬ n0 < n1 ∧ (n0 : Int) = (n : Int)) := by omega
  clear ncase
  rcases ncase2 with ⟨hlt01, En⟩ | ⟨hlt01, En⟩
  all_goals
    go_enter Ydtm.func24, Ydtm.ntmps24
    go_wp2_with (at_make; refine wpList_mk _ rfl _ _ 23 rfl 5 (.int .u8 0) 1 Ydtm.underlying23 Ydtm.info5 rfl _ _ _ _ (n + 1) rfl rfl (by omega) (by omega) (by omega) (by unfold maxLen; omega) ?_)
    intro w1 ho1 hb1
    go_wp2
    go_loopw [7, 8] (fun sc i wr => ∃ k c : Nat, k ≤ n ∧ i = .int .i64 (k : Int) ∧ sc = .int .i64 (c : Int) ∧ c ≤ 56 ∧ Hid (cy P Q k = c) ∧ Owns wr 5 w.heap.size (n + 1) (by8 (addK P Q k)) ∧ Below w.heap.size w wr) (fun _ i _ => n - (intOf i).toNat)
    case atStart =>
      refine ⟨0, 0, by omega, rfl, rfl, by omega, (show _ = _ by rfl), ho1.congr fun i hi => ?_, hb1⟩
      simp [by8, addK]
    case round =>
      obtain ⟨k, c, hk, rfl, rfl, hc56, hc, hown, hnx⟩ := hrel
      clear ho1 hb1
      by_cases hlt : k < n
      · obtain ⟨s, hs⟩ : ∃ s, cy P Q k + P k + Q k = s := ⟨_, rfl⟩
        have c1 := hown.cell k (by omega)
        have z1 := hown.frozen k
        have j1 : (k : Int) < ((n + 1 : Nat) : Int) := by omega
        have hst := hown.set8 k (s % 10)
        rw [addK_step P Q k s hs] at hst
        have hbs := hnx.setCell (p := ⟨w.heap.size, k, none⟩) (Nat.le_refl _) (.int .u8 ((s % 10 : Nat) : Int))
        have HC : Hid (cy P Q (k + 1) = s / 10) := by show _ = _; rw [cy, hs]
        have HST := mkHid hst
        have HBS := mkHid hbs
        have hs2 : c + P k + Q k = s := by rw [← hc.out]; exact hs
        clear hst hbs hown hs
        by_cases h0 : k < n0
        · obtain ⟨rfl, hba⟩ := Ha.out (by omega)
          have ga : wr.cell? ⟨ba, oa + k, none⟩ = some (.int .u8 (f k : Int)) := (hnx.cell (by exact hba)).trans (HA.out k h0)
          have f8 := HF8.out k
          have t0 : (k : Int) < n0 := by omega
          rw [p1.out k h0] at hs2
          by_cases h1 : k < n1
          · obtain ⟨rfl, hbb⟩ := Hb.out (by omega)
            have gb : wr.cell? ⟨bb, ob + k, none⟩ = some (.int .u8 (g k : Int)) := (hnx.cell (by exact hbb)).trans (HB.out k h1)
            have g8 := HG8.out k
            have t1 : (k : Int) < n1 := by omega
            rw [q1.out k h1] at hs2
            have Es : (c : Int) + (f k : Int) + (g k : Int) = (s : Int) := by omega
            have s566 : s ≤ 566 := by omega
            clear hs2 HA HB Ha Hb p1 p0 q1 q0 HF8 HG8 hnx
            go_wp2
            go_roundw
            case rel => exact ⟨k + 1, s / 10, by omega, by go_num, by go_num, by omega, HC, HST.out, HBS.out⟩
            case measure => simp [intOf]; omega
          · have t1 : ¬ (k : Int) < n1 := by omega
            rw [q0.out k h1] at hs2
            have Es : (c : Int) + (f k : Int) = (s : Int) := by omega
            have s566 : s ≤ 566 := by omega
            clear hs2 HA HB Ha Hb p1 p0 q1 q0 HF8 HG8 hnx
            first
              | (exfalso; omega)
              | (go_wp2
                 go_roundw
                 case rel => exact ⟨k + 1, s / 10, by omega, by go_num, by go_num, by omega, HC, HST.out, HBS.out⟩
                 case measure => simp [intOf]; omega)
        · have t0 : ¬ (k : Int) < n0 := by omega
          rw [p0.out k h0] at hs2
          have h1 : k < n1 := hkk.out k hlt h0
          obtain ⟨rfl, hbb⟩ := Hb.out (by omega)
          have gb : wr.cell? ⟨bb, ob + k, none⟩ = some (.int .u8 (g k : Int)) := (hnx.cell (by exact hbb)).trans (HB.out k h1)
          have g8 := HG8.out k
          have t1 : (k : Int) < n1 := by omega
          rw [q1.out k h1] at hs2
          have Es : (c : Int) + (g k : Int) = (s : Int) := by omega
          have s566 : s ≤ 566 := by omega
          clear hs2 HA HB Ha Hb p1 p0 q1 q0 HF8 HG8 hnx
          first
            | (exfalso; omega)
            | (go_wp2
               go_roundw
               case rel => exact ⟨k + 1, s / 10, by omega, by go_num, by go_num, by omega, HC, HST.out, HBS.out⟩
               case measure => simp [intOf]; omega)
      · have ekn : k = n := by omega
        have c1 := hown.cell n (by omega)
        have z1 := hown.frozen n
        have j1 : (n : Int) < ((n + 1 : Nat) : Int) := by omega
        have hst := hown.set8 n c
        rw [ekn] at hst hc
        rw [← hc.out, addF_last P Q n, hc.out] at hst
        have hbs := hnx.setCell (p := ⟨w.heap.size, n, none⟩) (Nat.le_refl _) (.int .u8 (c : Int))
        have HST := mkHid hst
        have HBS := mkHid hbs
        clear hst hbs hown hnx HA HB Ha Hb p1 p0 q1 q0 HF8 HG8
        have tlt : ¬ (k : Int) < n := by omega
        clear ekn
        go_wp2_with fail
        refine (trim_any _ _ _ (addF P Q n) _ (by omega) (Nat.le_refl _) (by omega) HST.out.reads).mono ?_
        rintro e w2 ⟨b, rfl, hbge, ho2, hb2⟩
        have hs2 := HBS.out.size
        have hbx := below_later HBS.out hb2 hs2
        clear HST HBS hb2
        go_wp2
        go_ret
        exact ⟨b, rfl, by omega, ho2, hbx⟩

end Go.Proofs.Ymbrdt
