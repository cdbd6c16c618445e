import Derived.Test.YmbrdsCmp
import Derived.Test.YmbrdsTrm
import Derived.Test.YmbrdsPlainS
namespace Go.Proofs.Ymbrds
open Go.RowKit

set_option maxHeartbeats 400000 in
theorem sub_lt (a0 a1 : Option Addr) (n0 c0 n1 c1 : Nat) (f g : Nat → Nat) (w : World) (hn0 : n0 ≤ 1073741824) (hn1 : n1 ≤ 1073741824)
    (hf : Reads w a0 n0 f) (hg : Reads w a1 n1 g) (cf : Canon n0 f) (cg : Canon n1 g) (hlt : val f n0 < val g n1) :
    Calls Ydsm.prog 27 #[.slice a0 n0 c0, .slice a1 n1 c1] w fun e w' => e = .returned (.tuple #[.slice none 0 0, .bool false]) ∧ Below w.heap.size w w' := by
  have hc : Hid (cmpF n0 f n1 g = -1) := by show _ = _; rw [cmpF_sgn cf cg, sgn, if_pos hlt]
  clear cf cg hlt
  go_enter Ydsm.func27, Ydsm.ntmps27
  go_wp2_with fail
  refine (compare_any _ _ _ _ _ _ f g _ (by omega) (by omega) hf hg).mono ?_
  rw [hc.out]
  rintro e w1 ⟨rfl, hb⟩
  clear hf hg hc
  go_wp2
  go_ret2
  exact ⟨rfl, hb⟩

set_option maxHeartbeats 1000000 in
theorem sub_ge (a0 a1 : Option Addr) (n0 c0 n1 c1 : Nat) (f g : Nat → Nat) (w : World) (hn0 : n0 ≤ 1073741824) (hn1 : n1 ≤ 1073741824)
    (hf : Reads w a0 n0 f) (hg : Reads w a1 n1 g) (cf : Canon n0 f) (cg : Canon n1 g) (hge : val g n1 ≤ val f n0) :
    Calls Ydsm.prog 27 #[.slice a0 n0 c0, .slice a1 n1 c1] w fun e w' => ∃ b t h, e = .returned (.tuple #[.slice (some ⟨b, 0, none⟩) t t, .bool true]) ∧ w.heap.size ≤ b ∧ t ≤ n0 ∧ Canon t h ∧ val h t = val f n0 - val g n1 ∧
      Owns w' 5 b t (by8 h) ∧ Below w.heap.size w w' := by
  obtain ⟨x, hx, x0⟩ : ∃ x, Hid (cmpF n0 f n1 g = x) ∧ 0 ≤ x := by
    refine ⟨_, rfl, ?_⟩
    rw [cmpF_sgn cf cg, sgn, if_neg (by omega)]
    split <;> decide
  have hlen := len_le_of_val cf cg hge
  obtain ⟨Q, hQ⟩ : ∃ Q, pad n1 g = Q := ⟨_, rfl⟩
  have q1 : Hid (∀ i, i < n1 → Q i = g i) := fun i hi => by rw [← hQ]; exact pad_in g hi
  have q0 : Hid (∀ i, ¬ i < n1 → Q i = 0) := fun i hi => by rw [← hQ]; exact pad_out g hi
  have Q9 : Hid (∀ i, Q i ≤ 9) := fun i => by rw [← hQ]; exact pad_digits cg.1 i
  have F9 : Hid (∀ i, i < n0 → f i ≤ 9) := cf.1
  have fin : Hid (Canon (tl (subK f Q n0) n0) (subK f Q n0) ∧ val (subK f Q n0) (tl (subK f Q n0) n0) = val f n0 - val g n1) := by
    have e1 : val Q n0 = val g n1 := by rw [← hQ]; exact val_padded g hlen
    refine ⟨tl_canon (fun i hi => subK_le cf.1 i hi), ?_⟩
    rw [tl_val, sub_val cf.1 (fun i _ => Q9.out i) (by rw [e1]; exact hge), e1]
  clear hQ cf cg hge
  have HF := mkHid hf
  have HG := mkHid hg
  clear hf hg
  go_enter Ydsm.func27, Ydsm.ntmps27
  go_wp2_with fail
  refine (compare_any _ _ _ _ _ _ f g _ (by omega) (by omega) HF.out HG.out).mono ?_
  rw [hx.out]
  rintro e w1 ⟨rfl, hb1⟩
  obtain ⟨ba, oa, ha, hA⟩ := HF.out.later hb1
  obtain ⟨bb, ob, hb, hB⟩ := HG.out.later hb1
  have HA := mkHid hA
  have HB := mkHid hB
  have Ha := mkHid ha
  have Hb := mkHid hb
  have hsz := hb1.size
  clear hA hB ha hb HF HG hx
  go_wp2_with (at_make; refine wpList_mk _ rfl _ _ 23 rfl 5 (.int .u8 0) 1 Ydsm.underlying23 Ydsm.info5 rfl _ _ _ _ n0 rfl rfl (by omega) (by omega) (by omega) (by unfold maxLen; omega) ?_)
  intro w2 ho2 hb2
  go_wp2
  go_loopw [7, 8] (fun sb i wr => ∃ k c : Nat, k ≤ n0 ∧ i = .int .i64 (k : Int) ∧ sb = .int .i64 (c : Int) ∧ c ≤ 1 ∧ Hid (bw f Q k = c) ∧ Owns wr 5 w1.heap.size n0 (by8 (subK f Q k)) ∧ Below w1.heap.size w1 wr) (fun _ i _ => n0 - (intOf i).toNat)
  case atStart =>
    refine ⟨0, 0, by omega, rfl, rfl, by omega, (show _ = _ by rfl), ho2.congr fun i hi => ?_, hb2⟩
    simp [by8, subK]
  case round =>
    obtain ⟨k, c, hk, rfl, rfl, hc1, hc, hown, hnx⟩ := hrel
    clear ho2 hb2
    by_cases hlt : k < n0
    · obtain ⟨rfl, hba⟩ := Ha.out (by omega)
      have ga : wr.cell? ⟨ba, oa + k, none⟩ = some (.int .u8 (f k : Int)) := (hnx.cell (by exact hba)).trans (HA.out k hlt)
      have f9 := F9.out k hlt
      have t0 : (k : Int) < n0 := by omega
      obtain ⟨q, hq⟩ : ∃ q, Q k = q := ⟨_, rfl⟩
      have hq9 : q ≤ 9 := by rw [← hq]; exact Q9.out k
      obtain ⟨d, hd⟩ : ∃ d, d = if f k < bw f Q k + Q k then f k + 10 - (bw f Q k + Q k) else f k - (bw f Q k + Q k) := ⟨_, rfl⟩
      have c1' := hown.cell k hlt
      have z1 := hown.frozen k
      have hst := hown.set8 k d
      rw [subK_step f Q k d hd] at hst
      have hbs := hnx.setCell (p := ⟨w1.heap.size, k, none⟩) (Nat.le_refl _) (.int .u8 (d : Int))
      have HST := mkHid hst
      have HBS := mkHid hbs
      rw [hc.out, hq] at hd
      have HC : Hid (bw f Q (k + 1) = if f k < c + q then 1 else 0) := by show _ = _; rw [bw, hc.out, hq]
      clear hst hbs hown hc
      have core : (k < n1 → wr.cell? ⟨bb, ob + k, none⟩ = some (.int .u8 (q : Int))) ∧ (¬ k < n1 → q = 0) :=
        ⟨fun h => by rw [hnx.cell (p := ⟨bb, ob + k, none⟩) (Hb.out (by omega)).2, HB.out k h, ← hq, q1.out k h], fun h => by rw [← hq]; exact q0.out k h⟩
      have CORE := mkHid core
      clear core hq
      by_cases h1 : k < n1
      · obtain ⟨rfl, hbb⟩ := Hb.out (by omega)
        have gb := CORE.out.1 h1
        have t1 : (k : Int) < n1 := by omega
        clear CORE HA HB Ha Hb q1 q0 Q9 F9 hnx
        by_cases hneg : f k < c + q
        · rw [if_pos hneg] at hd HC
          have td : (f k : Int) - c - q < 0 := by omega
          have Ed : (f k : Int) - (c : Int) - (q : Int) + 10 = (d : Int) := by omega
          have d9 : d ≤ 9 := by omega
          clear hd
          go_wp2
          go_roundw
          case rel => exact ⟨k + 1, 1, by omega, by go_num, rfl, by omega, HC, HST.out, HBS.out⟩
          case measure => simp [intOf]; omega
        · rw [if_neg hneg] at hd HC
          have td : ¬ (f k : Int) - c - q < 0 := by omega
          have Ed : (f k : Int) - (c : Int) - (q : Int) = (d : Int) := by omega
          have d9 : d ≤ 9 := by omega
          clear hd
          go_wp2
          go_roundw
          case rel => exact ⟨k + 1, 0, by omega, by go_num, rfl, by omega, HC, HST.out, HBS.out⟩
          case measure => simp [intOf]; omega
      · have t1 : ¬ (k : Int) < n1 := by omega
        have q00 := CORE.out.2 h1
        clear CORE HA HB Ha Hb q1 q0 Q9 F9 hnx
        by_cases hneg : f k < c + q
        · rw [if_pos hneg] at hd HC
          have td : (f k : Int) - c < 0 := by omega
          have Ed : (f k : Int) - (c : Int) + 10 = (d : Int) := by omega
          have d9 : d ≤ 9 := by omega
          clear hd q00
          go_wp2
          go_roundw
          case rel => exact ⟨k + 1, 1, by omega, by go_num, rfl, by omega, HC, HST.out, HBS.out⟩
          case measure => simp [intOf]; omega
        · rw [if_neg hneg] at hd HC
          have td : ¬ (f k : Int) - c < 0 := by omega
          have Ed : (f k : Int) - (c : Int) = (d : Int) := by omega
          have d9 : d ≤ 9 := by omega
          clear hd q00
          go_wp2
          go_roundw
          case rel => exact ⟨k + 1, 0, by omega, by go_num, rfl, by omega, HC, HST.out, HBS.out⟩
          case measure => simp [intOf]; omega
    · have tlt : ¬ (k : Int) < n0 := by omega
      have ekn : k = n0 := by omega
      rw [ekn] at hown
      clear ekn hc HA HB Ha Hb q1 q0 Q9 F9
      go_wp2_with fail
      refine (trim_any _ _ _ (subK f Q n0) _ (by omega) (Nat.le_refl _) (by omega) hown.reads).mono ?_
      rintro e w3 ⟨b, rfl, hbge, ho3, hb3⟩
      have hbx := below_size hb1 (below_later hnx hb3 hnx.size)
      have hs3 := hnx.size
      have htl := tl_le (subK f Q n0) n0
      clear hown hnx hb3
      go_wp2
      go_ret2
      exact ⟨b, _, _, rfl, by omega, htl, fin.out.1, fin.out.2, ho3, hbx⟩

end Go.Proofs.Ymbrds
