import Derived.Test.YmbrdtFu
namespace Go.Proofs.Ymbrdt
open Go.RowKit

theorem horner_up (f : Nat → Nat) (j m : Nat) : val (fun i => f (j + i)) (m + 1) = f j + 10 * val (fun i => f (j + 1 + i)) m := by
  rw [val_low]
  congr 2
  exact val_congr m (fun i _ => by rw [Nat.add_assoc, Nat.add_comm i 1])

set_option maxHeartbeats 1000000 in
theorem law_FBuilt (w : World) (a0 : Option Addr) (n0 c0 : Nat) (f0 : Nat → Nat) (r0 : Reads w a0 n0 f0) (b0 : ∀ j, f0 j ≤ 255) (_l0 : n0 ≤ c0) (_m0 : c0 ≤ 9223372036854775807) :
    Calls Ydtm.prog 6 #[.slice a0 n0 c0] w fun e w' => e = .returned (.bool true) ∧ Below w.heap.size w w' := by
  obtain ⟨ba, oa, ha, hA⟩ := r0
  obtain ⟨g, hg⟩ : ∃ g : Nat → Nat, ∀ i, g i = f0 i % 10 := ⟨fun i => f0 i % 10, fun _ => rfl⟩
  have HG : Hid (∀ i, g i = f0 i % 10) := hg
  by_cases h19 : 19 < n0
  · go_enter Ydtm.func6, Ydtm.ntmps6
    go_wp2
    go_loop [4, 5] (fun sv i => ∃ k m u : Nat, k + m = 19 ∧ i = .int .i64 ((k : Int) - 1) ∧ sv = .int .u64 (u : Int) ∧ u ≤ 9999999999999999999 ∧ Hid (val (fun i => g (k + i)) m = u)) (fun _ i => (intOf i + 1).toNat)
    case atStart => exact ⟨19, 0, 0, by omega, by go_num, rfl, by omega, (show _ = _ by rfl)⟩
    case round =>
      obtain ⟨k, m, u, hkm, rfl, rfl, hu1, hu⟩ := hrel
      cases k with
      | succ j =>
        obtain ⟨rfl, hba⟩ := ha (by omega)
        have ga : w.cell? ⟨ba, oa + j, none⟩ = some (.int .u8 (f0 j : Int)) := hA j (by omega)
        have hj : (j : Int) < n0 := by omega
        have h8 := b0 j
        have Eg : (f0 j : Int) % 10 = (g j : Int) := by rw [hg]; simp
        have g9 : g j ≤ 9 := by rw [hg]; omega
        have ht : Hid (val (fun i => g (j + i)) (m + 1) = g j + 10 * u) := by show _ = _; rw [horner_up, hu.out]
        have hlt : g j + 10 * u ≤ 9999999999999999999 := by
          rw [← ht.out]
          have h1 := val_lt (f := fun i => g (j + i)) (m + 1) (fun i _ => by simp only [hg]; omega)
          have h2 : 10 ^ (m + 1) ≤ 10 ^ 19 := pow_le10 (by omega)
          omega
        clear hA ha hu hg b0 HG
        rw [show ((j + 1 : Nat) : Int) - 1 = (j : Int) by omega]
        go_wp2
        go_round
        case rel => exact ⟨j, m + 1, g j + 10 * u, by omega, rfl, by go_num, hlt, ht⟩
        case measure => simp [intOf]
      | zero =>
        obtain rfl : 19 = m := by omega
        have hV : Hid (val g 19 = u) := by
          show _ = _
          rw [← hu.out]
          exact val_congr 19 (fun i _ => by rw [Nat.zero_add])
        clear hu
        go_wp2
        go_loop [3] (fun s => ∃ t : Nat, t ≤ 19 ∧ s = .int .i64 (t : Int) ∧ Hid (∀ j, t ≤ j → j < 19 → g j = 0)) (fun s => (intOf s).toNat)
        case atStart => exact ⟨19, by omega, rfl, (show ∀ _, _ by intro j h1 h2; omega)⟩
        case round =>
          obtain ⟨t, ht, rfl, hz⟩ := hrel
          by_cases hgo : 0 < t ∧ g (t - 1) = 0
          · obtain ⟨s, rfl⟩ : ∃ s, t = s + 1 := ⟨t - 1, by omega⟩
            obtain ⟨rfl, hba⟩ := ha (by omega)
            have ga : w.cell? ⟨ba, oa + s, none⟩ = some (.int .u8 (f0 s : Int)) := hA s (by omega)
            have hj : (s : Int) < n0 := by omega
            have h8 := b0 s
            have Eg : (f0 s : Int) % 10 = (g s : Int) := by rw [hg]; simp
            have gz : g s = 0 := by simpa using hgo.2
            have hq : ((g s : Int) == 0) = true := beq_iff_eq.2 (by omega)
            have hz' : Hid (∀ j, s ≤ j → j < 19 → g j = 0) := by
              show ∀ _, _
              intro j h1 h2
              by_cases e : j = s
              · rw [e]; exact gz
              · exact hz.out j (by omega) h2
            have es : ((s + 1 : Nat) : Int) - 1 = (s : Int) := by omega
            clear hA ha hg b0 hz hgo gz HG
            go_wp2
            go_round
            case rel => exact ⟨s, by omega, by go_num, hz'⟩
            case measure => simp [intOf]
          · have hcan : Hid (Canon t g) := by
              refine ⟨fun i _ => by rw [hg]; omega, fun h1 h2 => hgo ⟨h1, h2⟩⟩
            have hvt : Hid (val g t = u) := by
              show _ = _
              rw [← hV.out]
              obtain ⟨q, hq⟩ := Nat.exists_eq_add_of_le ht
              rw [hq, val_pad g t q (fun i h1 h2 => hz.out i h1 (by omega))]
            have stay : (¬ 0 < t) ∨ (0 < t ∧ ¬ g (t - 1) = 0) := by omega
            clear hz hgo hV
            have fin : ∀ (w2 : World) (a2 : Option Addr) (n2 c2 : Nat), FuOut u w w2 a2 n2 c2 → Hid (n2 = t ∧ Reads w2 a2 t g) := by
              intro w2 a2 n2 c2 ho
              have h1 := hcan.out.nd
              rw [hvt.out] at h1
              have h2 := ho.1.uniq h1
              have hr := ho.reads
              rw [h2] at hr
              refine ⟨h2, hr.congr fun i hi => ?_⟩
              rw [← dig_val t hcan.out.1 i hi, hvt.out]
            have FIN : Hid _ := fin
            clear fin hcan hvt
            rcases stay with h1 | ⟨h1, h2⟩
            · obtain rfl : t = 0 := by omega
              go_wp2_with fail
              refine (fromUint64_any u (by omega) _).mono ?_
              rintro e w2 ⟨a2, n2, c2, rfl, ho, hb2⟩
              obtain ⟨rfl, _⟩ := FIN.out _ _ _ _ ho
              clear FIN ho hA ha
              go_wp2
              go_loopw [7] (fun i wr => i = .int .i64 0 ∧ Below w.heap.size w wr) (fun _ _ => 0)
              case atStart => exact ⟨rfl, hb2⟩
              case round =>
                obtain ⟨rfl, hnx⟩ := hrel
                go_wp2
                go_ret
                exact ⟨rfl, hnx⟩
            · obtain ⟨s, rfl⟩ : ∃ s, t = s + 1 := ⟨t - 1, by omega⟩
              obtain ⟨rfl, hba⟩ := ha (by omega)
              have ga : w.cell? ⟨ba, oa + s, none⟩ = some (.int .u8 (f0 s : Int)) := hA s (by omega)
              have hj : (s : Int) < n0 := by omega
              have h8 := b0 s
              have Eg : (f0 s : Int) % 10 = (g s : Int) := by rw [hg]; simp
              have hq : ((g s : Int) == 0) = false := beq_eq_false_iff_ne.2 (by simp at h2; omega)
              have es : ((s + 1 : Nat) : Int) - 1 = (s : Int) := by omega
              have HA : Hid (∀ i, i < n0 → w.cell? ⟨ba, oa + i, none⟩ = some (.int .u8 (f0 i : Int))) := hA
              have B8 : Hid (∀ j, f0 j ≤ 255) := b0
              clear hA ha hg b0
              go_wp2_with fail
              refine (fromUint64_any u (by omega) _).mono ?_
              rintro e w2 ⟨a2, n2, c2, rfl, ho, hb2⟩
              obtain ⟨rfl, hr⟩ := FIN.out _ _ _ _ ho
              obtain ⟨bb, ob, hbb, hB⟩ := hr
              obtain ⟨rfl, hbw⟩ := hbb (by omega)
              have HBB : Hid (∀ i, i < s + 1 → w2.cell? ⟨bb, ob + i, none⟩ = some (.int .u8 (g i : Int))) := hB
              clear FIN ho hB hbb ga h8 Eg hq h2
              have q5 : (((s + 1 : Nat) : Int) != ((s + 1 : Nat) : Int)) = false := by simp
              go_wp2
              go_loopw [7] (fun i wr => ∃ k : Nat, k ≤ s + 1 ∧ i = .int .i64 (k : Int) ∧ Below w2.heap.size w2 wr) (fun i _ => s + 1 - (intOf i).toNat)
              case atStart => exact ⟨0, by omega, rfl, Below.refl _ _⟩
              case round =>
                obtain ⟨k, hk, rfl, hnx⟩ := hrel
                have hcx := below_size hb2 hnx
                by_cases hkt : k < s + 1
                · have g1 : wr.cell? ⟨ba, oa + k, none⟩ = some (.int .u8 (f0 k : Int)) := (hcx.cell (by exact hba)).trans (HA.out k (by omega))
                  have g2 : wr.cell? ⟨bb, ob + k, none⟩ = some (.int .u8 (g k : Int)) := (hnx.cell (by exact hbw)).trans (HBB.out k hkt)
                  have h8 := B8.out k
                  have Eg : (f0 k : Int) % 10 = (g k : Int) := by rw [HG.out]; simp
                  have j1 : (k : Int) < n0 := by omega
                  have j2 : (k : Int) < ((s + 1 : Nat) : Int) := by omega
                  clear HA B8 HBB HG hcx
                  go_wp2
                  go_quiet (fail)
                  go_wp2
                  go_roundw
                  case rel => exact ⟨k + 1, by omega, by go_num, bdrew hnx _⟩
                  case measure => simp [intOf]; omega
                · clear HA B8 HBB HG
                  go_wp2
                  go_ret
                  exact ⟨rfl, hcx⟩
  · go_enter Ydtm.func6, Ydtm.ntmps6
    go_wp2
    go_loop [4, 5] (fun sv i => ∃ k m u : Nat, k + m = n0 ∧ i = .int .i64 ((k : Int) - 1) ∧ sv = .int .u64 (u : Int) ∧ u ≤ 9999999999999999999 ∧ Hid (val (fun i => g (k + i)) m = u)) (fun _ i => (intOf i + 1).toNat)
    case atStart => exact ⟨n0, 0, 0, by omega, by go_num, rfl, by omega, (show _ = _ by rfl)⟩
    case round =>
      obtain ⟨k, m, u, hkm, rfl, rfl, hu1, hu⟩ := hrel
      cases k with
      | succ j =>
        obtain ⟨rfl, hba⟩ := ha (by omega)
        have ga : w.cell? ⟨ba, oa + j, none⟩ = some (.int .u8 (f0 j : Int)) := hA j (by omega)
        have hj : (j : Int) < n0 := by omega
        have h8 := b0 j
        have Eg : (f0 j : Int) % 10 = (g j : Int) := by rw [hg]; simp
        have g9 : g j ≤ 9 := by rw [hg]; omega
        have ht : Hid (val (fun i => g (j + i)) (m + 1) = g j + 10 * u) := by show _ = _; rw [horner_up, hu.out]
        have hlt : g j + 10 * u ≤ 9999999999999999999 := by
          rw [← ht.out]
          have h1 := val_lt (f := fun i => g (j + i)) (m + 1) (fun i _ => by simp only [hg]; omega)
          have h2 : 10 ^ (m + 1) ≤ 10 ^ 19 := pow_le10 (by omega)
          omega
        clear hA ha hu hg b0 HG
        rw [show ((j + 1 : Nat) : Int) - 1 = (j : Int) by omega]
        go_wp2
        go_round
        case rel => exact ⟨j, m + 1, g j + 10 * u, by omega, rfl, by go_num, hlt, ht⟩
        case measure => simp [intOf]
      | zero =>
        obtain rfl : n0 = m := by omega
        have hV : Hid (val g n0 = u) := by
          show _ = _
          rw [← hu.out]
          exact val_congr n0 (fun i _ => by rw [Nat.zero_add])
        clear hu
        go_wp2
        go_loop [3] (fun s => ∃ t : Nat, t ≤ n0 ∧ s = .int .i64 (t : Int) ∧ Hid (∀ j, t ≤ j → j < n0 → g j = 0)) (fun s => (intOf s).toNat)
        case atStart => exact ⟨n0, by omega, rfl, (show ∀ _, _ by intro j h1 h2; omega)⟩
        case round =>
          obtain ⟨t, ht, rfl, hz⟩ := hrel
          by_cases hgo : 0 < t ∧ g (t - 1) = 0
          · obtain ⟨s, rfl⟩ : ∃ s, t = s + 1 := ⟨t - 1, by omega⟩
            obtain ⟨rfl, hba⟩ := ha (by omega)
            have ga : w.cell? ⟨ba, oa + s, none⟩ = some (.int .u8 (f0 s : Int)) := hA s (by omega)
            have hj : (s : Int) < n0 := by omega
            have h8 := b0 s
            have Eg : (f0 s : Int) % 10 = (g s : Int) := by rw [hg]; simp
            have gz : g s = 0 := by simpa using hgo.2
            have hq : ((g s : Int) == 0) = true := beq_iff_eq.2 (by omega)
            have hz' : Hid (∀ j, s ≤ j → j < n0 → g j = 0) := by
              show ∀ _, _
              intro j h1 h2
              by_cases e : j = s
              · rw [e]; exact gz
              · exact hz.out j (by omega) h2
            have es : ((s + 1 : Nat) : Int) - 1 = (s : Int) := by omega
            clear hA ha hg b0 hz hgo gz HG
            go_wp2
            go_round
            case rel => exact ⟨s, by omega, by go_num, hz'⟩
            case measure => simp [intOf]
          · have hcan : Hid (Canon t g) := by
              refine ⟨fun i _ => by rw [hg]; omega, fun h1 h2 => hgo ⟨h1, h2⟩⟩
            have hvt : Hid (val g t = u) := by
              show _ = _
              rw [← hV.out]
              obtain ⟨q, hq⟩ := Nat.exists_eq_add_of_le ht
              rw [hq, val_pad g t q (fun i h1 h2 => hz.out i h1 (by omega))]
            have stay : (¬ 0 < t) ∨ (0 < t ∧ ¬ g (t - 1) = 0) := by omega
            clear hz hgo hV
            have fin : ∀ (w2 : World) (a2 : Option Addr) (n2 c2 : Nat), FuOut u w w2 a2 n2 c2 → Hid (n2 = t ∧ Reads w2 a2 t g) := by
              intro w2 a2 n2 c2 ho
              have h1 := hcan.out.nd
              rw [hvt.out] at h1
              have h2 := ho.1.uniq h1
              have hr := ho.reads
              rw [h2] at hr
              refine ⟨h2, hr.congr fun i hi => ?_⟩
              rw [← dig_val t hcan.out.1 i hi, hvt.out]
            have FIN : Hid _ := fin
            clear fin hcan hvt
            rcases stay with h1 | ⟨h1, h2⟩
            · obtain rfl : t = 0 := by omega
              go_wp2_with fail
              refine (fromUint64_any u (by omega) _).mono ?_
              rintro e w2 ⟨a2, n2, c2, rfl, ho, hb2⟩
              obtain ⟨rfl, _⟩ := FIN.out _ _ _ _ ho
              clear FIN ho hA ha
              go_wp2
              go_loopw [7] (fun i wr => i = .int .i64 0 ∧ Below w.heap.size w wr) (fun _ _ => 0)
              case atStart => exact ⟨rfl, hb2⟩
              case round =>
                obtain ⟨rfl, hnx⟩ := hrel
                go_wp2
                go_ret
                exact ⟨rfl, hnx⟩
            · obtain ⟨s, rfl⟩ : ∃ s, t = s + 1 := ⟨t - 1, by omega⟩
              obtain ⟨rfl, hba⟩ := ha (by omega)
              have ga : w.cell? ⟨ba, oa + s, none⟩ = some (.int .u8 (f0 s : Int)) := hA s (by omega)
              have hj : (s : Int) < n0 := by omega
              have h8 := b0 s
              have Eg : (f0 s : Int) % 10 = (g s : Int) := by rw [hg]; simp
              have hq : ((g s : Int) == 0) = false := beq_eq_false_iff_ne.2 (by simp at h2; omega)
              have es : ((s + 1 : Nat) : Int) - 1 = (s : Int) := by omega
              have HA : Hid (∀ i, i < n0 → w.cell? ⟨ba, oa + i, none⟩ = some (.int .u8 (f0 i : Int))) := hA
              have B8 : Hid (∀ j, f0 j ≤ 255) := b0
              clear hA ha hg b0
              go_wp2_with fail
              refine (fromUint64_any u (by omega) _).mono ?_
              rintro e w2 ⟨a2, n2, c2, rfl, ho, hb2⟩
              obtain ⟨rfl, hr⟩ := FIN.out _ _ _ _ ho
              obtain ⟨bb, ob, hbb, hB⟩ := hr
              obtain ⟨rfl, hbw⟩ := hbb (by omega)
              have HBB : Hid (∀ i, i < s + 1 → w2.cell? ⟨bb, ob + i, none⟩ = some (.int .u8 (g i : Int))) := hB
              clear FIN ho hB hbb ga h8 Eg hq h2
              have q5 : (((s + 1 : Nat) : Int) != ((s + 1 : Nat) : Int)) = false := by simp
              go_wp2
              go_loopw [7] (fun i wr => ∃ k : Nat, k ≤ s + 1 ∧ i = .int .i64 (k : Int) ∧ Below w2.heap.size w2 wr) (fun i _ => s + 1 - (intOf i).toNat)
              case atStart => exact ⟨0, by omega, rfl, Below.refl _ _⟩
              case round =>
                obtain ⟨k, hk, rfl, hnx⟩ := hrel
                have hcx := below_size hb2 hnx
                by_cases hkt : k < s + 1
                · have g1 : wr.cell? ⟨ba, oa + k, none⟩ = some (.int .u8 (f0 k : Int)) := (hcx.cell (by exact hba)).trans (HA.out k (by omega))
                  have g2 : wr.cell? ⟨bb, ob + k, none⟩ = some (.int .u8 (g k : Int)) := (hnx.cell (by exact hbw)).trans (HBB.out k hkt)
                  have h8 := B8.out k
                  have Eg : (f0 k : Int) % 10 = (g k : Int) := by rw [HG.out]; simp
                  have j1 : (k : Int) < n0 := by omega
                  have j2 : (k : Int) < ((s + 1 : Nat) : Int) := by omega
                  clear HA B8 HBB HG hcx
                  go_wp2
                  go_quiet (fail)
                  go_wp2
                  go_roundw
                  case rel => exact ⟨k + 1, by omega, by go_num, bdrew hnx _⟩
                  case measure => simp [intOf]; omega
                · clear HA B8 HBB HG
                  go_wp2
                  go_ret
                  exact ⟨rfl, hcx⟩

end Go.Proofs.Ymbrdt
