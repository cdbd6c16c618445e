import Derived.Test.YmbrdsFmt
namespace Go.Proofs.Ymbrds
open Go.RowKit

theorem StrIs.eq {s t : ByteArray} {n : Nat} {g h : Nat → Nat} (hs : StrIs s n g) (ht : StrIs t n h) (e : ∀ i, i < n → g i = h i) : s = t := by
  apply ByteArray.ext
  apply Array.ext
  · exact hs.1.trans ht.1.symm
  · intro i h1 h2
    have a1 := hs.2 i h1
    have a2 := ht.2 i h2
    have a3 : i < n := by rw [← hs.1]; exact h1
    apply UInt8.toNat_inj.1
    show (s[i]'h1).toNat = (t[i]'h2).toNat
    rw [a1, a2, e i a3]

def numT (st k : Nat) (f : Nat → Nat) : Nat → Nat := fun j => if j < k then 48 + f (st + j) % 10 else 0
def numA (st m k : Nat) (f : Nat → Nat) : Nat → Nat := fun j => if m - k ≤ j then f (st + (m - 1 - j)) % 10 else 0

theorem numT_step {st k : Nat} {f : Nat → Nat} (i : Nat) : upd (numT st k f) k (48 + f (st + k) % 10) i = numT st (k + 1) f i := by
  unfold upd numT
  by_cases h1 : i = k
  · subst h1; simp
  · rw [if_neg h1]
    by_cases h2 : i < k
    · rw [if_pos h2, if_pos (by omega)]
    · rw [if_neg h2, if_neg (by omega)]

theorem numA_step {st m k i : Nat} {f : Nat → Nat} (hk : k < m) (hi : i < m) : upd (numA st m k f) (m - 1 - k) (f (st + k) % 10) i = numA st m (k + 1) f i := by
  unfold upd numA
  by_cases h1 : i = m - 1 - k
  · rw [if_pos h1, if_pos (by omega), show m - 1 - i = k by omega]
  · rw [if_neg h1]
    by_cases h2 : m - k ≤ i
    · rw [if_pos h2, if_pos (by omega)]
    · rw [if_neg h2, if_neg (by omega)]

theorem ten_ways {d : Nat} (h : d ≤ 9) : d = 0 ∨ d = 1 ∨ d = 2 ∨ d = 3 ∨ d = 4 ∨ d = 5 ∨ d = 6 ∨ d = 7 ∨ d = 8 ∨ d = 9 := by omega

set_option maxHeartbeats 1000000 in
theorem law_BNumeral (w : World) (a0 : Option Addr) (n0 c0 : Nat) (f0 : Nat → Nat) (r0 : Reads w a0 n0 f0) (b0 : ∀ j, f0 j ≤ 255) (_l0 : n0 ≤ c0) (_m0 : c0 ≤ 9223372036854775807) :
    Calls Ydsm.prog 6 #[.slice a0 n0 c0] w fun e w' => e = .returned (.bool true) ∧ Below w.heap.size w w' := by
  by_cases h0 : 1024 < n0
  · go_enter Ydsm.func6, Ydsm.ntmps6
    go_wp2
    go_ret
    exact ⟨rfl, Below.refl _ _⟩
  obtain ⟨ba, oa, ha, hA⟩ := r0
  go_enter Ydsm.func6, Ydsm.ntmps6
  go_wp2
  go_loop [3] (fun i => ∃ k : Nat, k ≤ n0 ∧ i = .int .i64 (k : Int)) (fun i => n0 - (intOf i).toNat)
  case atStart => exact ⟨0, by omega, rfl⟩
  case round =>
    obtain ⟨st, hst, rfl⟩ := hrel
    obtain ⟨m, hm⟩ : ∃ m, n0 = st + m := ⟨n0 - st, by omega⟩
    have Em : (n0 : Int) - (st : Int) = (m : Int) := by omega
    have hcell : st < n0 → a0 = some ⟨ba, oa, none⟩ ∧ w.cell? ⟨ba, oa + st, none⟩ = some (.int .u8 (f0 st : Int)) := fun h => ⟨(ha (by omega)).1, hA st h⟩
    have hstop : Hid (¬ (st < n0 ∧ f0 st % 10 = 0) ∨ (st < n0 ∧ f0 st % 10 = 0)) := by
      show _ ∨ _
      by_cases h : st < n0 ∧ f0 st % 10 = 0
      · exact .inr h
      · exact .inl h
    by_cases hgo : st < n0 ∧ f0 st % 10 = 0
    · obtain ⟨hlt, hz⟩ := hgo
      obtain ⟨rfl, hc⟩ := hcell hlt
      have hj : (st : Int) < n0 := by omega
      have hb := b0 st
      have hq : ((f0 st : Int) % 10 == 0) = true := beq_iff_eq.2 (by omega)
      clear hcell hA ha b0
      go_wp2
      go_round
      case rel => exact ⟨st + 1, by omega, by go_num⟩
      case measure => simp [intOf]; omega
    · have rest : (¬ st < n0) ∨ (st < n0 ∧ ¬ f0 st % 10 = 0) := by omega
      clear hstop hgo
      rcases rest with hlt | ⟨hlt, hz⟩
      · obtain rfl : st = n0 := by omega
        obtain rfl : m = 0 := by omega
        clear hcell hA ha hst hm
        go_wp2_with (at_make; refine wpList_mk _ rfl _ _ 22 rfl 5 (.int .u8 0) 1 Ydsm.underlying22 Ydsm.info5 rfl _ _ _ _ 0 rfl rfl (by omega) (by omega) (by omega) (by unfold maxLen; omega) ?_)
        intro w1 ho1 hb1
        go_wp2_with (at_make; refine wpList_mk _ rfl _ _ 23 rfl 5 (.int .u8 0) 1 Ydsm.underlying23 Ydsm.info5 rfl _ _ _ _ 0 rfl rfl (by omega) (by omega) (by omega) (by unfold maxLen; omega) ?_)
        intro w2 ho2 hb2
        have hc2 := below_size hb1 hb2
        have hcv := run_convert_bytes_arg (P := Ydsm.prog) w2 22 5 Ydsm.underlying22 Ydsm.underlying5 w.heap.size 0 0 0 [] rfl (fun i hi => by omega) 9 Ydsm.underlying9
        clear ho1 ho2 hb1 hb2
        go_wp2
        go_loop [7] (fun i => i = .int .i64 0) (fun _ => 0)
        case atStart => rfl
        case round =>
          subst hrel
          go_wp2_with fail
          refine (format_nil _ _ _).mono ?_
          rintro e w3 ⟨rfl, hb3⟩
          have hc3 := below_size hc2 hb3
          clear hb3 hc2
          go_wp2
          go_ret
          exact ⟨rfl, hc3⟩
      · obtain ⟨rfl, hc⟩ := hcell hlt
        have hj : (st : Int) < n0 := by omega
        have hb := b0 st
        have hbw := (ha (by omega)).2
        have hq : ((f0 st : Int) % 10 == 0) = false := beq_eq_false_iff_ne.2 (by omega)
        have hmpos : 0 < m := by omega
        have hm0 : ((m : Int) == 0) = false := beq_eq_false_iff_ne.2 (by omega)
        have B8 : Hid (∀ j, f0 j ≤ 255) := b0
        have HM : Hid (n0 = st + m) := hm
        have HAA : Hid (∀ i, i < n0 → w.cell? ⟨ba, oa + i, none⟩ = some (.int .u8 (f0 i : Int))) := hA
        clear hcell hA ha b0 hm
        go_wp2_with (at_make; refine wpList_mk _ rfl _ _ 22 rfl 5 (.int .u8 0) 1 Ydsm.underlying22 Ydsm.info5 rfl _ _ _ _ m rfl rfl (by omega) (by omega) (by omega) (by unfold maxLen; omega) ?_)
        intro w1 ho1 hb1
        go_wp2_with (at_make; refine wpList_mk _ rfl _ _ 23 rfl 5 (.int .u8 0) 1 Ydsm.underlying23 Ydsm.info5 rfl _ _ _ _ m rfl rfl (by omega) (by omega) (by omega) (by unfold maxLen; omega) ?_)
        intro w2 ho2 hb2
        have hc2 := below_size hb1 hb2
        have hg12 := ho1.lt
        have ho1' := ho1.later hb2
        clear ho1 hb1 hb2 hc hb hq
        go_wp2
        go_loopw [7] (fun i wr => ∃ k : Nat, k ≤ m ∧ i = .int .i64 (k : Int) ∧ Owns wr 5 w.heap.size m (by8 (numT st k f0)) ∧ Owns wr 5 w1.heap.size m (by8 (numA st m k f0)) ∧ Below w.heap.size w wr) (fun i _ => m - (intOf i).toNat)
        case atStart =>
          refine ⟨0, by omega, rfl, ho1'.congr fun i hi => ?_, ho2.congr fun i hi => ?_, hc2⟩
          · simp [by8, numT]
          · unfold by8 numA
            rw [if_neg (by omega)]
            rfl
        case round =>
          obtain ⟨k, hk, rfl, hT, hD, hnx⟩ := hrel
          clear ho1' ho2 hc2
          by_cases hkm : k < m
          · have ga : wr.cell? ⟨ba, oa + (st + k), none⟩ = some (.int .u8 (f0 (st + k) : Int)) := (hnx.cell (by exact hbw)).trans (HAA.out (st + k) (by have := HM.out; omega))
            have h8 := B8.out (st + k)
            obtain ⟨d, hd⟩ : ∃ d, f0 (st + k) % 10 = d := ⟨_, rfl⟩
            have hd9 : d ≤ 9 := by omega
            have Ed : (f0 (st + k) : Int) % 10 = (d : Int) := by omega
            have c1 := hT.cell k hkm
            have z1 := hT.frozen k
            have c2 := hD.cell (m - 1 - k) (by omega)
            have z2 := hD.frozen (m - 1 - k)
            have j1 : (st : Int) + k < n0 := by have := HM.out; omega
            have j2 : (k : Int) < m := by omega
            have s1 := (hT.set8 k (48 + d)).otherCell ⟨w1.heap.size, m - 1 - k, none⟩ (.int .u8 (d : Int)) (by simp; omega)
            have s2 := (hD.otherCell ⟨w.heap.size, k, none⟩ (.int .u8 ((48 + d : Nat) : Int)) (by simp; omega)).set8 (m - 1 - k) d
            have S1 : Hid (Owns ((wr.setCell ⟨w.heap.size, k, none⟩ (.int .u8 ((48 + d : Nat) : Int))).setCell ⟨w1.heap.size, m - 1 - k, none⟩ (.int .u8 (d : Int))) 5 w.heap.size m (by8 (numT st (k + 1) f0))) :=
              s1.congr (fun i _ => by unfold by8; rw [← hd, numT_step])
            have S2 : Hid (Owns ((wr.setCell ⟨w.heap.size, k, none⟩ (.int .u8 ((48 + d : Nat) : Int))).setCell ⟨w1.heap.size, m - 1 - k, none⟩ (.int .u8 (d : Int))) 5 w1.heap.size m (by8 (numA st m (k + 1) f0))) :=
              s2.congr (fun i hi => by unfold by8; rw [← hd, numA_step hkm hi])
            have S3 : Hid (Below w.heap.size w ((wr.setCell ⟨w.heap.size, k, none⟩ (.int .u8 ((48 + d : Nat) : Int))).setCell ⟨w1.heap.size, m - 1 - k, none⟩ (.int .u8 (d : Int)))) :=
              (hnx.setCell (p := ⟨w.heap.size, k, none⟩) (Nat.le_refl _) _).setCell (p := ⟨w1.heap.size, m - 1 - k, none⟩) (by simp; omega) _
            clear s1 s2 hT hD hnx hd HAA B8 HM
            rcases ten_ways hd9 with rfl | rfl | rfl | rfl | rfl | rfl | rfl | rfl | rfl | rfl
            all_goals
              go_wp2
              go_roundw
              case rel => exact ⟨k + 1, by omega, by go_num, S1.out, S2.out, S3.out⟩
              case measure => simp [intOf]; omega
          · obtain rfl : k = m := by omega
            have hS := strOf k (fun i => 48 + f0 (st + i) % 10) (fun i _ => by omega)
            have hcv := run_convert_bytes_arg (P := Ydsm.prog) wr 22 5 Ydsm.underlying22 Ydsm.underlying5 w.heap.size 0 k k ((List.range k).map fun i => ((48 + f0 (st + i) % 10 : Nat) : Int)) (by simp)
              (fun i hi => by
                rw [Nat.zero_add, hT.cell i hi]
                simp [by8, numT, hi]) 9 Ydsm.underlying9
            obtain ⟨S, hSe⟩ : ∃ S, strOfNums ((List.range k).map fun i => ((48 + f0 (st + i) % 10 : Nat) : Int)) = S := ⟨_, rfl⟩
            rw [hSe] at hcv hS
            have hr : Reads wr (some ⟨w1.heap.size, 0, none⟩) k (numA st k k f0) := hD.reads
            have HSS : Hid (StrIs S k (fun i => 48 + f0 (st + i) % 10)) := hS
            clear hSe hT hD HAA hS
            go_wp2_with fail
            refine (format_pos _ _ _ (numA st k k f0) _ (by omega) hmpos hr (fun j => by unfold numA; split <;> omega)).mono ?_
            rintro e w3 ⟨s, rfl, hs, hb3⟩
            have es : s = S := hs.eq HSS.out (fun i hi => by
              simp only [numA]
              rw [if_pos (by omega), show k - 1 - (k - 1 - i) = i by omega]
              omega)
            subst es
            have hc3 := below_size hnx hb3
            clear hb3 hnx hs HSS hr hcv
            go_wp2
            go_ret
            exact ⟨ret_b (by simp), hc3⟩

end Go.Proofs.Ymbrds
