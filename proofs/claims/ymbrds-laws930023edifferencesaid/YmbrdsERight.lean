import Derived.Test.YmbrdsSub
import Derived.Test.YmbrdsESame
import Derived.Test.YmbrdsEAdd
import Derived.Test.YmbrdsELess
import Derived.WalkSpells
namespace Go.Proofs.Ymbrds
open Go.RowKit

theorem canon_pad {n : Nat} {f : Nat → Nat} (h : Canon n f) : Canon n (pad n f) :=
  ⟨fun i hi => by rw [pad_in f hi]; exact h.1 i hi, fun hp => by rw [pad_in f (by omega)]; exact h.2 hp⟩

set_option maxHeartbeats 1000000 in
theorem eright_any (a0 a1 : Option Addr) (n0 c0 n1 c1 : Nat) (f g : Nat → Nat) (w : World) (hn0 : n0 ≤ 1048576) (hn1 : n1 ≤ 1048576)
    (hf : Reads w a0 n0 f) (hg : Reads w a1 n1 g) (f8 : ∀ j, f j ≤ 255) (g8 : ∀ j, g j ≤ 255) (cf : Canon n0 f) (cg : Canon n1 g) :
    Calls Ydsm.prog 25 #[.slice a0 n0 c0, .slice a1 n1 c1] w fun e w' => e = .returned (.bool true) ∧ Below w.heap.size w w' := by
  have hnl := fun (wx : World) (a : Option Addr) (n c : Nat) => Lib.run_eql_slice_nil (P := Ydsm.prog) wx 23 5 a n c 0 0 Ydsm.underlying23
  have HF := mkHid hf
  have HG := mkHid hg
  have F8 := mkHid f8
  have G8 := mkHid g8
  have CF := mkHid cf
  have CG := mkHid cg
  clear hf hg f8 g8 cf cg
  by_cases hlt : val f n0 < val g n1
  · have HLT := mkHid hlt
    clear hlt
    go_enter Ydsm.func25, Ydsm.ntmps25
    go_wp2_with fail
    refine (sub_lt _ _ _ _ _ _ f g _ (by omega) (by omega) HF.out HG.out CF.out CG.out HLT.out).mono ?_
    rintro e w1 ⟨rfl, hb1⟩
    go_wp2_with fail
    refine (eless_any _ _ _ _ _ _ f g _ (by omega) (by omega) (HF.out.later hb1) (HG.out.later hb1) F8.out G8.out CF.out CG.out true (decide_eq_true HLT.out)).mono ?_
    rintro e w2 ⟨rfl, hb2⟩
    have hc2 := below_size hb1 hb2
    clear hb1 hb2 HF HG
    go_wp2
    go_ret
    exact ⟨rfl, hc2⟩
  · have HGE := mkHid (Nat.le_of_not_lt hlt)
    have HNL := mkHid hlt
    clear hlt
    go_enter Ydsm.func25, Ydsm.ntmps25
    go_wp2_with fail
    refine (sub_ge _ _ _ _ _ _ f g _ (by omega) (by omega) HF.out HG.out CF.out CG.out HGE.out).mono ?_
    rintro e w1 ⟨b, t, h, rfl, hgb, ht, hcan, hval, hoD, hb1⟩
    have H8 := mkHid (fun j => Nat.le_trans (pad_digits hcan.1 j) (show 9 ≤ 255 by omega))
    have CH := mkHid (canon_pad hcan)
    have VH : Hid (val (pad t h) t = val f n0 - val g n1) := by show _ = _; rw [val_padded h (Nat.le_refl t), hval]
    replace hoD := hoD.congr (G := by8 (pad t h)) (fun i hi => by unfold by8; rw [pad_in h hi])
    clear hcan hval
    generalize pad t h = h at *
    go_wp2_with fail
    refine (eless_any _ _ _ _ _ _ f g _ (by omega) (by omega) (HF.out.later hb1) (HG.out.later hb1) F8.out G8.out CF.out CG.out false (decide_eq_false HNL.out)).mono ?_
    rintro e w2 ⟨rfl, hb2⟩
    have hc2 := below_size hb1 hb2
    replace hoD := hoD.later hb2
    clear hb1 hb2 hnl
    go_wp2
    go_loop [7] (fun i => ∃ k : Nat, k ≤ t ∧ i = .int .i64 (k : Int)) (fun i => t - (intOf i).toNat)
    case atStart => exact ⟨0, by omega, rfl⟩
    case round =>
      obtain ⟨k, hk, rfl⟩ := hrel
      by_cases hlt : k < t
      · have ga := hoD.cell k hlt
        unfold by8 at ga
        have h9 : h k ≤ 9 := CH.out.1 k hlt
        have t0 : (k : Int) < t := by omega
        have t1 : decide ((9 : Int) < (h k : Int)) = false := by simp; omega
        have t2 : ¬ (9 : Int) < (h k : Int) := by omega
        clear HF HG F8 G8 CF CG HGE HNL VH CH hoD hc2
        go_wp2
        go_round
        case rel => exact ⟨k + 1, by omega, by go_num⟩
        case measure => simp [intOf]; omega
      · have tk : ¬ (k : Int) < t := by omega
        clear hk hlt
        rcases Nat.eq_zero_or_pos t with rfl | hpos
        · go_wp2_with fail
          refine (eadd_any _ _ _ _ _ _ g h _ (by omega) (by omega) (HG.out.later hc2) hoD.reads G8.out H8.out CG.out CH.out).mono ?_
          rintro e w3 ⟨bS, tS, cS, S, rfl, hgS, hlS, hcanS, hvS, hoS, hb3⟩
          have eS : Hid (sameB tS S n0 f = true) := sameB_canon hcanS CF.out (by rw [hvS, VH.out]; have := HGE.out; omega)
          have hc3 := below_size hc2 hb3
          replace hoD := hoD.later hb3
          clear hc2 hb3 hcanS hvS
          go_wp2_with fail
          refine (esame_any _ _ _ _ _ _ S f _ (by omega) (by omega) hoS.reads (HF.out.later hc3)).mono ?_
          rintro e w4 ⟨rfl, hb4⟩
          rw [eS.out]
          have hc4 := below_size hc3 hb4
          replace hoD := hoD.later hb4
          clear hc3 hb4 hoS eS HF HG F8 G8 CF CG HGE HNL VH CH H8
          go_wp2
          go_loopw [8] (fun i wr => ∃ (j : Nat) (F : Nat → Value), j ≤ 0 ∧ i = .int .i64 (j : Int) ∧ Owns wr 5 b 0 F ∧ Below w.heap.size w wr) (fun i _ => 0 - (intOf i).toNat)
          case atStart => exact ⟨0, _, by omega, rfl, hoD, hc4⟩
          case round =>
            obtain ⟨j, F, hj, rfl, hown, hnx⟩ := hrel
            clear hoD hc4
            by_cases hjl : j < 0
            · exact absurd hjl (by omega)
            · have tj : ¬ (j : Int) < (0 : Nat) := by omega
              clear hown
              go_wp2
              go_ret
              exact ⟨rfl, hnx⟩
        · obtain ⟨s, rfl⟩ : ∃ s, t = s + 1 := ⟨t - 1, by omega⟩
          have ga := hoD.cell s (by omega)
          unfold by8 at ga
          have h0 : h s ≠ 0 := by have := CH.out.2 hpos; simpa using this
          have q0 : ((h s : Int) == 0) = false := beq_eq_false_iff_ne.2 (by omega)
          have t1 : (0 : Int) < ((s + 1 : Nat) : Int) := by omega
          have es : ((s + 1 : Nat) : Int) - 1 = (s : Int) := by omega
          have t2 : (s : Int) < ((s + 1 : Nat) : Int) := by omega
          go_wp2_with fail
          refine (eadd_any _ _ _ _ _ _ g h _ (by omega) (by omega) (HG.out.later hc2) hoD.reads G8.out H8.out CG.out CH.out).mono ?_
          rintro e w3 ⟨bS, tS, cS, S, rfl, hgS, hlS, hcanS, hvS, hoS, hb3⟩
          have eS : Hid (sameB tS S n0 f = true) := sameB_canon hcanS CF.out (by rw [hvS, VH.out]; have := HGE.out; omega)
          have hc3 := below_size hc2 hb3
          replace hoD := hoD.later hb3
          clear hc2 hb3 hcanS hvS
          go_wp2_with fail
          refine (esame_any _ _ _ _ _ _ S f _ (by omega) (by omega) hoS.reads (HF.out.later hc3)).mono ?_
          rintro e w4 ⟨rfl, hb4⟩
          rw [eS.out]
          have hc4 := below_size hc3 hb4
          replace hoD := hoD.later hb4
          clear hc3 hb4 hoS eS HF HG F8 G8 CF CG HGE HNL VH CH H8
          go_wp2
          go_loopw [8] (fun i wr => ∃ (j : Nat) (F : Nat → Value), j ≤ (s + 1) ∧ i = .int .i64 (j : Int) ∧ Owns wr 5 b (s + 1) F ∧ Below w.heap.size w wr) (fun i _ => (s + 1) - (intOf i).toNat)
          case atStart => exact ⟨0, _, by omega, rfl, hoD, hc4⟩
          case round =>
            obtain ⟨j, F, hj, rfl, hown, hnx⟩ := hrel
            clear hoD hc4
            by_cases hjl : j < (s + 1)
            · have c1' := hown.cell j hjl
              have z1 := hown.frozen j
              have j1 : (j : Int) < ((s + 1) : Nat) := by omega
              have HST := mkHid (hown.setCell j (.int .u8 77))
              have HBS := mkHid (hnx.setCell (p := ⟨b, j, none⟩) hgb (.int .u8 77))
              clear hown hnx
              go_wp2
              go_roundw
              case rel => exact ⟨j + 1, _, by omega, by go_num, HST.out, HBS.out⟩
              case measure => simp [intOf]; omega
            · have tj : ¬ (j : Int) < ((s + 1) : Nat) := by omega
              clear hown
              go_wp2
              go_ret
              exact ⟨rfl, hnx⟩

end Go.Proofs.Ymbrds
