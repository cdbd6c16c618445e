import Derived.Test.YmbrduPrs
import Derived.Test.YmbrduKDig
import Derived.WalkSpells
namespace Go.Proofs.Ymbrdu
open Go.RowKit

set_option maxHeartbeats 2000000 in
theorem law_KExact (w : World) (a0 : ByteArray) (w0 : a0.size ≤ maxLen) (a1 : Bool) :
    Calls Ydum.prog 8 #[.string a0, .bool a1] w fun e w' => e = .returned (.bool true) ∧ Below w.heap.size w w' := by
  unfold maxLen at w0
  by_cases h0 : 1024 < a0.size
  · go_enter Ydum.func8, Ydum.ntmps8
    go_wp2
    go_ret
    exact ⟨rfl, Below.refl _ _⟩
  have hnl := fun (wx : World) (a : Option Addr) (n c : Nat) => Lib.run_eql_slice_nil (P := Ydum.prog) wx 24 5 a n c 0 0 Ydum.underlying24
  cases a1 with
  | true =>
    go_enter Ydum.func8, Ydum.ntmps8
    go_wp2_with fail
    refine (kdigits_any a0 _ (chr a0) _ (strIs_chr a0) (by omega) (chr_le a0)).mono ?_
    rintro e w1 ⟨s, rfl, hS, hbS⟩
    obtain ⟨g, hg⟩ : ∃ g : Nat → Nat, (fun i => 48 + chr a0 i % 10) = g := ⟨_, rfl⟩
    rw [hg] at hS
    have G8 : Hid (∀ i, g i ≤ 255) := fun i => by rw [← hg]; show 48 + chr a0 i % 10 ≤ 255; omega
    have hn : ∃ n, n = a0.size := ⟨_, rfl⟩
    obtain ⟨n, hn⟩ := hn
    rw [← hn] at hS
    have n1024 : n ≤ 1024 := by omega
    have SI := mkHid hS
    have hsz := hS.1
    have CH := mkHid hS.2
    clear hg hS hn
    go_wp2
    go_loopw [6, 7] (fun sg i wr => ∃ (k : Nat) (gb : Bool), k ≤ n ∧ i = .int .i64 (k : Int) ∧ sg = .bool gb ∧ Hid (gb = true ↔ 0 < n ∧ ∀ j, j < k → 48 ≤ g j ∧ g j ≤ 57) ∧ Below w.heap.size w wr) (fun _ i _ => n - (intOf i).toNat)
    case atStart =>
      refine ⟨0, decide (0 < n), by omega, rfl, by simp, ?_, hbS⟩
      show _ ↔ _
      simp
    case round =>
      obtain ⟨k, gb, hk, rfl, rfl, hgb, hnx⟩ := hrel
      by_cases hlt : k < n
      · have hix : k < s.size := by omega
        have hv : (s[k]'hix).toNat = g k := CH.out k hix
        have j1 : (k : Int) < n := by omega
        obtain ⟨c, hc⟩ : ∃ c, g k = c := ⟨_, rfl⟩
        have c8 : c ≤ 255 := by rw [← hc]; exact G8.out k
        have HCC := mkHid hc
        rw [hc] at hv
        clear hc
        obtain ⟨gb', hgb', hw⟩ : ∃ gb' : Bool, Hid (gb' = true ↔ 0 < n ∧ ∀ j, j < k + 1 → 48 ≤ g j ∧ g j ≤ 57) ∧ ((c < 48 ∧ gb' = false) ∨ (48 ≤ c ∧ 57 < c ∧ gb' = false) ∨ (48 ≤ c ∧ ¬ 57 < c ∧ gb' = gb)) := by
          by_cases t1 : c < 48
          · refine ⟨false, ⟨fun h => (by cases h), fun h => ?_⟩, .inl ⟨t1, rfl⟩⟩
            have := h.2 k (by omega)
            rw [HCC.out] at this
            omega
          · by_cases t2 : 57 < c
            · refine ⟨false, ⟨fun h => (by cases h), fun h => ?_⟩, .inr (.inl ⟨by omega, t2, rfl⟩)⟩
              have := h.2 k (by omega)
              rw [HCC.out] at this
              omega
            · refine ⟨gb, ⟨fun h => ?_, fun h => ?_⟩, .inr (.inr ⟨by omega, t2, rfl⟩)⟩
              · refine ⟨(hgb.out.1 h).1, fun j hj => ?_⟩
                by_cases e : j = k
                · rw [e, HCC.out]; omega
                · exact (hgb.out.1 h).2 j (by omega)
              · exact hgb.out.2 ⟨h.1, fun j hj => h.2 j (by omega)⟩
        clear HCC hgb CH G8
        rcases hw with ⟨t1, rfl⟩ | ⟨t0, t1, rfl⟩ | ⟨t0, t1, rfl⟩
        · have q1 : decide ((c : Int) < 48) = true := by simp; omega
          go_wp2
          go_roundw
          case rel => exact ⟨k + 1, false, by omega, by go_num, rfl, hgb', hnx⟩
          case measure => simp [intOf]; omega
        · have q1 : decide ((c : Int) < 48) = false := by simp; omega
          have q2 : decide ((57 : Int) < (c : Int)) = true := by simp; omega
          go_wp2
          go_roundw
          case rel => exact ⟨k + 1, false, by omega, by go_num, rfl, hgb', hnx⟩
          case measure => simp [intOf]; omega
        · have q1 : decide ((c : Int) < 48) = false := by simp; omega
          have q2 : decide ((57 : Int) < (c : Int)) = false := by simp; omega
          go_wp2
          go_roundw
          case rel => exact ⟨k + 1, gb', by omega, by go_num, rfl, hgb', hnx⟩
          case measure => simp [intOf]; omega
      · have tk : ¬ (k : Int) < n := by omega
        have hgn : Hid (gb = true ↔ GoodS n g) := by
          show _ ↔ _
          rw [hgb.out, show k = n by omega]
          rfl
        clear hgb
        go_wp2_with fail
        refine (parse_any s n g _ SI.out (by omega) G8.out).mono ?_
        rintro e w3 hpo
        rcases hpo with ⟨hno, rfl, hb3⟩ | ⟨hyes, b, rfl, hbge, ho3, hb3⟩
        · have hf : gb = false := by rw [← Bool.not_eq_true, hgn.out]; exact hno
          subst hf
          have hcx := below_later hnx hb3 hnx.size
          clear hno hnx hb3 hgn CH G8 SI
          go_wp2
          go_ret
          exact ⟨rfl, hcx⟩
        · have hf : gb = true := hgn.out.2 hyes
          subst hf
          have hcx := below_later hnx hb3 hnx.size
          have YES := mkHid hyes
          have htl := tl_le (dgs n g) n
          clear hnx hb3 hgn SI hyes
          obtain ⟨t, ht⟩ : ∃ t, tl (dgs n g) n = t := ⟨_, rfl⟩
          have HT := mkHid ht
          rw [ht] at ho3 htl ⊢
          clear ht
          go_wp2
          go_loop [10] (fun i => ∃ L : Nat, L ≤ n ∧ i = .int .i64 (L : Int) ∧ Hid (∀ j, j < L → g j = 48)) (fun i => n - (intOf i).toNat)
          case atStart => exact ⟨0, by omega, rfl, (show ∀ _, _ by intro j hj; omega)⟩
          case round =>
            obtain ⟨L, hL, rfl, hlead⟩ := hrel
            by_cases hgo : L < n ∧ g L = 48
            · obtain ⟨hLn, hg48⟩ := hgo
              have hix : L < s.size := by omega
              have hv : (s[L]'hix).toNat = 48 := by rw [CH.out L hix]; exact hg48
              have j1 : (L : Int) < n := by omega
              have hlead' : Hid (∀ j, j < L + 1 → g j = 48) := fun j hj => by
                by_cases e : j = L
                · rw [e]; exact hg48
                · exact hlead.out j (by omega)
              clear hlead hg48 CH G8 YES HT
              go_wp2
              go_round
              case rel => exact ⟨L + 1, by omega, by go_num, hlead'⟩
              case measure => simp [intOf]; omega
            · have et : t = n - L := by
                rw [← HT.out]
                refine tl_uniq (by omega) (fun i h2 h3 => ?_) (fun hp => ?_)
                · unfold dgs
                  rw [hlead.out (n - 1 - i) (by omega)]
                · unfold dgs
                  rw [show n - 1 - (n - L - 1) = L by omega]
                  have hLn : L < n := by omega
                  have h5 := (YES.out.2 L hLn).1
                  have h6 : ¬ g L = 48 := fun h => hgo ⟨hLn, h⟩
                  omega
              have q5 : ((t : Int) != (n : Int) - (L : Int)) = false := by
                have : (t : Int) = (n : Int) - (L : Int) := by omega
                simp [this]
              have stop : (L = n) ∨ (∃ c, L < n ∧ g L = c ∧ ((c : Int) == 48) = false) := by
                by_cases e : L = n
                · exact .inl e
                · have hLn : L < n := by omega
                  have h6 : ¬ g L = 48 := fun h => hgo ⟨hLn, h⟩
                  have h7 : ((g L : Int) == 48) = false := beq_eq_false_iff_ne.2 (by omega)
                  exact .inr ⟨g L, hLn, rfl, h7⟩
              have OC : Hid (∀ i, i < t → w3.cell? ⟨b, i, none⟩ = some (.int .u8 (dgs n g i : Int)) ∧ b < w3.heap.size) := fun i hi => ⟨ho3.cell i hi, ho3.lt⟩
              have ET := mkHid et
              clear hgo hlead HT et ho3
              rcases stop with rfl | ⟨c, hLn, hcc, q6⟩
              · go_wp2
                go_loopw [11] (fun i wr => i = .int .i64 (L : Int) ∧ Below w3.heap.size w3 wr) (fun _ _ => 0)
                case atStart => exact ⟨rfl, Below.refl _ _⟩
                case round =>
                  obtain ⟨rfl, hnx⟩ := hrel
                  have hcy := below_later hcx hnx hcx.size
                  clear CH G8 YES OC
                  go_wp2
                  go_ret
                  exact ⟨rfl, hcy⟩
              · have hix : L < s.size := by omega
                have hv : (s[L]'hix).toNat = c := by rw [CH.out L hix]; exact hcc
                have j1 : (L : Int) < n := by omega
                have HCC := mkHid hcc
                clear hcc
                go_wp2
                go_loopw [11] (fun i wr => ∃ k : Nat, L ≤ k ∧ k ≤ n ∧ i = .int .i64 (k : Int) ∧ Below w3.heap.size w3 wr) (fun i _ => n - (intOf i).toNat)
                case atStart => exact ⟨L, by omega, by omega, rfl, Below.refl _ _⟩
                case round =>
                  obtain ⟨k, hLk, hkn, rfl, hnx⟩ := hrel
                  clear hv
                  by_cases hlt : k < n
                  · have hix2 : k < s.size := by omega
                    have hv : (s[k]'hix2).toNat = g k := CH.out k hix2
                    have hkt : n - 1 - k < t := by have := ET.out; omega
                    have gd : wr.cell? ⟨b, n - 1 - k, none⟩ = some (.int .u8 ((g k - 48 : Nat) : Int)) := by
                      rw [hnx.cell (p := ⟨b, n - 1 - k, none⟩) (OC.out _ hkt).2, (OC.out _ hkt).1]
                      unfold dgs
                      rw [show n - 1 - (n - 1 - k) = k by omega]
                    have gk := YES.out.2 k hlt
                    obtain ⟨g1, g2⟩ := gk
                    rw [show ((g k - 48 : Nat) : Int) = (g k : Int) - 48 by omega] at gd
                    have j2 : (k : Int) < n := by omega
                    have j3 : (n : Int) - 1 - (k : Int) < (t : Int) := by omega
                    have q7 : ((g k : Int) - 48 != (g k : Int) - 48) = false := by simp
                    clear CH G8 YES OC ET
                    go_wp2
                    go_quiet (fail)
                    go_wp2
                    go_roundw
                    case rel => exact ⟨k + 1, by omega, by omega, by go_num, bdrew hnx _⟩
                    case measure => simp [intOf]; omega
                  · have tk3 : ¬ (k : Int) < n := by omega
                    have hcy := below_later hcx hnx hcx.size
                    clear CH G8 YES OC
                    go_wp2
                    go_ret
                    exact ⟨rfl, hcy⟩
  | false =>
    obtain ⟨s, hs⟩ : ∃ s, s = a0 := ⟨_, rfl⟩
    rw [← hs] at h0 w0 ⊢
    clear hs
    obtain ⟨n, hn⟩ : ∃ n, n = s.size := ⟨_, rfl⟩
    have hS := strIs_chr s
    rw [← hn] at hS
    have G8 := mkHid (chr_le s)
    have n1024 : n ≤ 1024 := by omega
    have hsz := hS.1
    generalize chr s = g at *
    have SI := mkHid hS
    have CH := mkHid hS.2
    have hbS := Below.refl w.heap.size w
    clear hS hn h0 w0
    go_enter Ydum.func8, Ydum.ntmps8
    go_wp2
    go_loopw [6, 7] (fun sg i wr => ∃ (k : Nat) (gb : Bool), k ≤ n ∧ i = .int .i64 (k : Int) ∧ sg = .bool gb ∧ Hid (gb = true ↔ 0 < n ∧ ∀ j, j < k → 48 ≤ g j ∧ g j ≤ 57) ∧ Below w.heap.size w wr) (fun _ i _ => n - (intOf i).toNat)
    case atStart =>
      refine ⟨0, decide (0 < n), by omega, rfl, by simp, ?_, hbS⟩
      show _ ↔ _
      simp
    case round =>
      obtain ⟨k, gb, hk, rfl, rfl, hgb, hnx⟩ := hrel
      by_cases hlt : k < n
      · have hix : k < s.size := by omega
        have hv : (s[k]'hix).toNat = g k := CH.out k hix
        have j1 : (k : Int) < n := by omega
        obtain ⟨c, hc⟩ : ∃ c, g k = c := ⟨_, rfl⟩
        have c8 : c ≤ 255 := by rw [← hc]; exact G8.out k
        have HCC := mkHid hc
        rw [hc] at hv
        clear hc
        obtain ⟨gb', hgb', hw⟩ : ∃ gb' : Bool, Hid (gb' = true ↔ 0 < n ∧ ∀ j, j < k + 1 → 48 ≤ g j ∧ g j ≤ 57) ∧ ((c < 48 ∧ gb' = false) ∨ (48 ≤ c ∧ 57 < c ∧ gb' = false) ∨ (48 ≤ c ∧ ¬ 57 < c ∧ gb' = gb)) := by
          by_cases t1 : c < 48
          · refine ⟨false, ⟨fun h => (by cases h), fun h => ?_⟩, .inl ⟨t1, rfl⟩⟩
            have := h.2 k (by omega)
            rw [HCC.out] at this
            omega
          · by_cases t2 : 57 < c
            · refine ⟨false, ⟨fun h => (by cases h), fun h => ?_⟩, .inr (.inl ⟨by omega, t2, rfl⟩)⟩
              have := h.2 k (by omega)
              rw [HCC.out] at this
              omega
            · refine ⟨gb, ⟨fun h => ?_, fun h => ?_⟩, .inr (.inr ⟨by omega, t2, rfl⟩)⟩
              · refine ⟨(hgb.out.1 h).1, fun j hj => ?_⟩
                by_cases e : j = k
                · rw [e, HCC.out]; omega
                · exact (hgb.out.1 h).2 j (by omega)
              · exact hgb.out.2 ⟨h.1, fun j hj => h.2 j (by omega)⟩
        clear HCC hgb CH G8
        rcases hw with ⟨t1, rfl⟩ | ⟨t0, t1, rfl⟩ | ⟨t0, t1, rfl⟩
        · have q1 : decide ((c : Int) < 48) = true := by simp; omega
          go_wp2
          go_roundw
          case rel => exact ⟨k + 1, false, by omega, by go_num, rfl, hgb', hnx⟩
          case measure => simp [intOf]; omega
        · have q1 : decide ((c : Int) < 48) = false := by simp; omega
          have q2 : decide ((57 : Int) < (c : Int)) = true := by simp; omega
          go_wp2
          go_roundw
          case rel => exact ⟨k + 1, false, by omega, by go_num, rfl, hgb', hnx⟩
          case measure => simp [intOf]; omega
        · have q1 : decide ((c : Int) < 48) = false := by simp; omega
          have q2 : decide ((57 : Int) < (c : Int)) = false := by simp; omega
          go_wp2
          go_roundw
          case rel => exact ⟨k + 1, gb', by omega, by go_num, rfl, hgb', hnx⟩
          case measure => simp [intOf]; omega
      · have tk : ¬ (k : Int) < n := by omega
        have hgn : Hid (gb = true ↔ GoodS n g) := by
          show _ ↔ _
          rw [hgb.out, show k = n by omega]
          rfl
        clear hgb
        go_wp2_with fail
        refine (parse_any s n g _ SI.out (by omega) G8.out).mono ?_
        rintro e w3 hpo
        rcases hpo with ⟨hno, rfl, hb3⟩ | ⟨hyes, b, rfl, hbge, ho3, hb3⟩
        · have hf : gb = false := by rw [← Bool.not_eq_true, hgn.out]; exact hno
          subst hf
          have hcx := below_later hnx hb3 hnx.size
          clear hno hnx hb3 hgn CH G8 SI
          go_wp2
          go_ret
          exact ⟨rfl, hcx⟩
        · have hf : gb = true := hgn.out.2 hyes
          subst hf
          have hcx := below_later hnx hb3 hnx.size
          have YES := mkHid hyes
          have htl := tl_le (dgs n g) n
          clear hnx hb3 hgn SI hyes
          obtain ⟨t, ht⟩ : ∃ t, tl (dgs n g) n = t := ⟨_, rfl⟩
          have HT := mkHid ht
          rw [ht] at ho3 htl ⊢
          clear ht
          go_wp2
          go_loop [10] (fun i => ∃ L : Nat, L ≤ n ∧ i = .int .i64 (L : Int) ∧ Hid (∀ j, j < L → g j = 48)) (fun i => n - (intOf i).toNat)
          case atStart => exact ⟨0, by omega, rfl, (show ∀ _, _ by intro j hj; omega)⟩
          case round =>
            obtain ⟨L, hL, rfl, hlead⟩ := hrel
            by_cases hgo : L < n ∧ g L = 48
            · obtain ⟨hLn, hg48⟩ := hgo
              have hix : L < s.size := by omega
              have hv : (s[L]'hix).toNat = 48 := by rw [CH.out L hix]; exact hg48
              have j1 : (L : Int) < n := by omega
              have hlead' : Hid (∀ j, j < L + 1 → g j = 48) := fun j hj => by
                by_cases e : j = L
                · rw [e]; exact hg48
                · exact hlead.out j (by omega)
              clear hlead hg48 CH G8 YES HT
              go_wp2
              go_round
              case rel => exact ⟨L + 1, by omega, by go_num, hlead'⟩
              case measure => simp [intOf]; omega
            · have et : t = n - L := by
                rw [← HT.out]
                refine tl_uniq (by omega) (fun i h2 h3 => ?_) (fun hp => ?_)
                · unfold dgs
                  rw [hlead.out (n - 1 - i) (by omega)]
                · unfold dgs
                  rw [show n - 1 - (n - L - 1) = L by omega]
                  have hLn : L < n := by omega
                  have h5 := (YES.out.2 L hLn).1
                  have h6 : ¬ g L = 48 := fun h => hgo ⟨hLn, h⟩
                  omega
              have q5 : ((t : Int) != (n : Int) - (L : Int)) = false := by
                have : (t : Int) = (n : Int) - (L : Int) := by omega
                simp [this]
              have stop : (L = n) ∨ (∃ c, L < n ∧ g L = c ∧ ((c : Int) == 48) = false) := by
                by_cases e : L = n
                · exact .inl e
                · have hLn : L < n := by omega
                  have h6 : ¬ g L = 48 := fun h => hgo ⟨hLn, h⟩
                  have h7 : ((g L : Int) == 48) = false := beq_eq_false_iff_ne.2 (by omega)
                  exact .inr ⟨g L, hLn, rfl, h7⟩
              have OC : Hid (∀ i, i < t → w3.cell? ⟨b, i, none⟩ = some (.int .u8 (dgs n g i : Int)) ∧ b < w3.heap.size) := fun i hi => ⟨ho3.cell i hi, ho3.lt⟩
              have ET := mkHid et
              clear hgo hlead HT et ho3
              rcases stop with rfl | ⟨c, hLn, hcc, q6⟩
              · go_wp2
                go_loopw [11] (fun i wr => i = .int .i64 (L : Int) ∧ Below w3.heap.size w3 wr) (fun _ _ => 0)
                case atStart => exact ⟨rfl, Below.refl _ _⟩
                case round =>
                  obtain ⟨rfl, hnx⟩ := hrel
                  have hcy := below_later hcx hnx hcx.size
                  clear CH G8 YES OC
                  go_wp2
                  go_ret
                  exact ⟨rfl, hcy⟩
              · have hix : L < s.size := by omega
                have hv : (s[L]'hix).toNat = c := by rw [CH.out L hix]; exact hcc
                have j1 : (L : Int) < n := by omega
                have HCC := mkHid hcc
                clear hcc
                go_wp2
                go_loopw [11] (fun i wr => ∃ k : Nat, L ≤ k ∧ k ≤ n ∧ i = .int .i64 (k : Int) ∧ Below w3.heap.size w3 wr) (fun i _ => n - (intOf i).toNat)
                case atStart => exact ⟨L, by omega, by omega, rfl, Below.refl _ _⟩
                case round =>
                  obtain ⟨k, hLk, hkn, rfl, hnx⟩ := hrel
                  clear hv
                  by_cases hlt : k < n
                  · have hix2 : k < s.size := by omega
                    have hv : (s[k]'hix2).toNat = g k := CH.out k hix2
                    have hkt : n - 1 - k < t := by have := ET.out; omega
                    have gd : wr.cell? ⟨b, n - 1 - k, none⟩ = some (.int .u8 ((g k - 48 : Nat) : Int)) := by
                      rw [hnx.cell (p := ⟨b, n - 1 - k, none⟩) (OC.out _ hkt).2, (OC.out _ hkt).1]
                      unfold dgs
                      rw [show n - 1 - (n - 1 - k) = k by omega]
                    have gk := YES.out.2 k hlt
                    obtain ⟨g1, g2⟩ := gk
                    rw [show ((g k - 48 : Nat) : Int) = (g k : Int) - 48 by omega] at gd
                    have j2 : (k : Int) < n := by omega
                    have j3 : (n : Int) - 1 - (k : Int) < (t : Int) := by omega
                    have q7 : ((g k : Int) - 48 != (g k : Int) - 48) = false := by simp
                    clear CH G8 YES OC ET
                    go_wp2
                    go_quiet (fail)
                    go_wp2
                    go_roundw
                    case rel => exact ⟨k + 1, by omega, by omega, by go_num, bdrew hnx _⟩
                    case measure => simp [intOf]; omega
                  · have tk3 : ¬ (k : Int) < n := by omega
                    have hcy := below_later hcx hnx hcx.size
                    clear CH G8 YES OC
                    go_wp2
                    go_ret
                    exact ⟨rfl, hcy⟩

end Go.Proofs.Ymbrdu
