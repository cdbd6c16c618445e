import Derived.Test.YmbrduDiv
import Derived.Test.YmbrduICanon
import Derived.Test.YmbrduILess
import Derived.Test.YmbrduIMake
import Derived.Test.YmbrduPlainE
import Derived.WalkSpells
namespace Go.Proofs.Ymbrdu
open Go.RowKit

theorem Ydum.info3 : (Ydum.prog.info? 3).map (fun i => (i.zero, i.size, i.bytes)) = some (some (.int .i64 0), 1, 8) := by kernel_rfl

def by64 (f : Nat → Nat) : Nat → Value := fun i => .int .i64 (f i : Int)

theorem Owns.set64 {w : World} {e g n : Nat} {f : Nat → Nat} (h : Owns w e g n (by64 f)) (i v : Nat) : Owns (w.setCell ⟨g, i, none⟩ (.int .i64 (v : Int))) e g n (by64 (upd f i v)) := by
  refine (h.setCell i _).congr fun j _ => ?_
  by_cases hji : j = i <;> simp [hji, by64, upd]

theorem Reads.cell0 {w : World} {b n : Nat} {f : Nat → Nat} (h : Reads w (some ⟨b, 0, none⟩) n f) (i : Nat) (hi : i < n) : w.cell? ⟨b, i, none⟩ = some (.int .u8 (f i : Int)) ∧ b < w.heap.size := by
  obtain ⟨qb, qo, ha, hA⟩ := h
  obtain ⟨e, hb⟩ := ha (by omega)
  simp only [Option.some.injEq, Addr.mk.injEq, and_true] at e
  obtain ⟨rfl, rfl⟩ := e
  have := hA i hi
  rw [Nat.zero_add] at this
  exact ⟨this, hb⟩

theorem euclid_inner {acc : Nat → Nat} {N i j q b V Rv Qi Bj : Nat} (hm : i + j < N) (hv : val acc N = Rv + Qi + q * 10 ^ i * Bj) (hV : V = Bj + b * 10 ^ j) :
    val (upd acc (i + j) (acc (i + j) + q * b)) N = Rv + Qi + q * 10 ^ i * V := by
  rw [val_upd_add acc (i + j) (q * b) N hm, hv, hV, Nat.mul_add, inner_step]
  omega

theorem euclid_outer {V Rv Qi Qn q i B : Nat} (hv : V = Rv + Qi * B + q * 10 ^ i * B) (hQ : Qn = Qi + q * 10 ^ i) : V = Rv + Qn * B := by
  rw [hv, hQ, Nat.add_mul]
  omega

theorem pad_step (n k : Nat) (f : Nat → Nat) (h : k < n) : upd (pad k f) k (f k) = pad (k + 1) f := by
  funext i
  unfold upd pad
  by_cases e : i = k
  · subst e; simp
  · rw [if_neg e]
    by_cases h2 : i < k
    · rw [if_pos h2, if_pos (by omega)]
    · rw [if_neg h2, if_neg (by omega)]

set_option maxRecDepth 100000 in
set_option maxHeartbeats 2000000 in
theorem law_IEuclid (w : World) (a0 : Option Addr) (n0 c0 : Nat) (f0 : Nat → Nat) (r0 : Reads w a0 n0 f0) (b0 : ∀ j, f0 j ≤ 255) (_l0 : n0 ≤ c0) (_m0 : c0 ≤ 9223372036854775807)
    (a1 : Option Addr) (n1 c1 : Nat) (f1 : Nat → Nat) (r1 : Reads w a1 n1 f1) (b1 : ∀ j, f1 j ≤ 255) (_l1 : n1 ≤ c1) (_m1 : c1 ≤ 9223372036854775807) :
    Calls Ydum.prog 3 #[.slice a0 n0 c0, .slice a1 n1 c1] w fun e w' => e = .returned (.bool true) ∧ Below w.heap.size w w' := by
  by_cases h0 : 1024 < n0
  · go_enter Ydum.func3, Ydum.ntmps3
    go_wp2
    go_ret
    exact ⟨rfl, Below.refl _ _⟩
  by_cases h1 : 1024 < n1
  · go_enter Ydum.func3, Ydum.ntmps3
    go_wp2
    go_ret
    exact ⟨rfl, Below.refl _ _⟩
  have R0 := mkHid r0
  have R1 := mkHid r1
  have B0 := mkHid b0
  have B1 := mkHid b1
  clear r0 r1 b0 b1
  have cF := mkHid (m10_canon f0 n0)
  have cG := mkHid (m10_canon f1 n1)
  have lA := tl_le (m10 f0) n0
  have lB := tl_le (m10 f1) n1
  have hnl := fun (wx : World) (a : Option Addr) (n c : Nat) => Lib.run_eql_slice_nil (P := Ydum.prog) wx 24 5 a n c 0 0 Ydum.underlying24
  go_enter Ydum.func3, Ydum.ntmps3
  go_wp2_with fail
  refine (imake_any _ _ _ f0 _ (by omega) R0.out B0.out).mono ?_
  rintro e w1 ⟨bA, rfl, hgA, hoA, hb1⟩
  go_wp2_with fail
  refine (imake_any _ _ _ f1 _ (by omega) (R1.out.later hb1) B1.out).mono ?_
  rintro e w2 ⟨bB, rfl, hgB, hoB, hb2⟩
  have hc2 := below_size hb1 hb2
  replace hoA := hoA.later hb2
  clear R0 R1 B0 B1 hb1 hb2
  generalize tl (m10 f0) n0 = la at *
  generalize tl (m10 f1) n1 = lb at *
  generalize m10 f0 = F at *
  generalize m10 f1 = G at *
  by_cases hpos : 0 < lb
  · have q1 : ((lb : Int) == 0) = false := beq_eq_false_iff_ne.2 (by omega)
    have hBpos : Hid (0 < val G lb) := cG.out.nd.pos.2 hpos
    go_wp2_with fail
    refine (divmod_yes _ _ _ _ _ _ F G _ (by omega) (by omega) hoA.reads hoB.reads hpos cF.out cG.out _ _ rfl rfl).mono ?_
    rintro e w3 ⟨bq, lq, ar, lr, cr, hq, hr, rfl, htq, hnr, cq, vq, rq, cr', vr, rr, hb3⟩
    have hc3 := below_size hc2 hb3
    replace hoA := hoA.later hb3
    replace hoB := hoB.later hb3
    have vQ := mkHid (vldB_true cq)
    have vR := mkHid (vldB_true cr')
    have lR : Hid (lessB lr hr lb G = true) := lessB_val cr' cG.out (by rw [vr]; exact Nat.mod_lt _ hBpos.out)
    have hlen := euclid_len cF.out.nd cq.nd cG.out.nd vq.symm hBpos.out
    have AL := mkHid hlen.2.2
    have hl1 := hlen.1
    have hl2 := hlen.2.1
    have CQ := mkHid cq
    have CR := mkHid cr'
    have VQ := mkHid vq
    have VR := mkHid vr
    clear hc2 hb3 hlen cq cr' vq vr
    go_wp2_with fail
    refine (icanon_any _ _ _ hq _ (by omega) rq).mono ?_
    rw [vQ.out]
    rintro e w4 ⟨rfl, hb4⟩
    replace hoA := hoA.later hb4
    replace hoB := hoB.later hb4
    replace rq := rq.later hb4
    replace rr := rr.later hb4
    have hc4 := below_size hc3 hb4
    go_wp2_with fail
    refine (icanon_any _ _ _ hr _ (by omega) rr).mono ?_
    rw [vR.out]
    rintro e w5 ⟨rfl, hb5⟩
    replace hoA := hoA.later hb5
    replace hoB := hoB.later hb5
    replace rq := rq.later hb5
    replace rr := rr.later hb5
    have hc5 := below_size hc4 hb5
    go_wp2_with fail
    refine (iless_any _ _ _ _ _ _ hr G _ (by omega) (by omega) rr hoB.reads).mono ?_
    rw [lR.out]
    rintro e w6 ⟨rfl, hb6⟩
    replace hoA := hoA.later hb6
    replace hoB := hoB.later hb6
    replace rq := rq.later hb6
    replace rr := rr.later hb6
    have hc6 := below_size hc5 hb6
    have hs6 := hc6.size
    clear hc3 hc4 hc5 hb4 hb5 hb6 vQ vR lR
    have t1 : decide ((la : Int) < (lq : Int)) = false := by simp; omega
    have t2 : decide ((lq : Int) + (lb : Int) < (la : Int)) = false := by simp; omega
    go_wp2_with (at_make; refine wpList_mk _ rfl _ _ 29 rfl 3 (.int .i64 0) 8 Ydum.underlying29 Ydum.info3 rfl _ _ _ _ (lq + lb) rfl rfl (by omega) (by omega) (by omega) (by unfold maxLen; omega) ?_)
    intro w7 ho7 hb7
    obtain ⟨rb, ro, hra, hrA⟩ := rr
    have RA := mkHid hra
    have RC := mkHid hrA
    clear hra hrA
    go_wp2
    go_loopw [11] (fun i wr => ∃ k : Nat, k ≤ lr ∧ i = .int .i64 (k : Int) ∧ Owns wr 3 w6.heap.size (lq + lb) (by64 (pad k hr)) ∧ Below w6.heap.size w6 wr) (fun i _ => lr - (intOf i).toNat)
    case atStart =>
      refine ⟨0, by omega, rfl, ho7.congr fun i hi => ?_, hb7⟩
      simp [by64, pad]
    case round =>
      obtain ⟨k, hk, rfl, hown, hnx⟩ := hrel
      clear ho7 hb7
      by_cases hlt : k < lr
      · obtain ⟨rfl, hrb⟩ := RA.out (by omega)
        have ga : wr.cell? ⟨rb, ro + k, none⟩ = some (.int .u8 (hr k : Int)) := (hnx.cell (by exact hrb)).trans (RC.out k hlt)
        have r9 := CR.out.1 k hlt
        have j1 : (k : Int) < lr := by omega
        have j2 : (k : Int) < ((lq + lb : Nat) : Int) := by omega
        have c1' := hown.cell k (by omega)
        have z1 := hown.frozen k
        have hst := hown.set64 k (hr k)
        rw [pad_step lr k hr hlt] at hst
        have hbs := hnx.setCell (p := ⟨w6.heap.size, k, none⟩) (Nat.le_refl _) (.int .i64 (hr k : Int))
        have HST := mkHid hst
        have HBS := mkHid hbs
        clear hst hbs hown hnx hoA hoB rq
        go_wp2
        go_roundw
        case rel => exact ⟨k + 1, by omega, by go_num, HST.out, HBS.out⟩
        case measure => simp [intOf]; omega
      · have tk : ¬ (k : Int) < lr := by omega
        have ek : k = lr := by omega
        rw [ek] at hown
        clear ek hk RA RC
        have pv : Hid (val (pad lr hr) (lq + lb) = val hr lr) := val_padded hr (by omega)
        have p9 : Hid (∀ i, pad lr hr i ≤ 9) := pad_digits CR.out.1
        have QC : Hid (∀ i, i < lq → w6.cell? ⟨bq, i, none⟩ = some (.int .u8 (hq i : Int)) ∧ bq < w6.heap.size) := fun i hi => rq.cell0 i hi
        have BC : Hid (∀ j, j < lb → w6.cell? ⟨bB, j, none⟩ = some (.int .u8 (G j : Int)) ∧ bB < w6.heap.size) := fun j hj => hoB.reads.cell0 j hj
        have AC : Hid (∀ j, j < la → w6.cell? ⟨bA, j, none⟩ = some (.int .u8 (F j : Int)) ∧ bA < w6.heap.size) := fun j hj => hoA.reads.cell0 j hj
        have VN : Hid (val hr lr + val hq lq * val G lb = val F la) := by
          show _ = _
          rw [VQ.out, VR.out, Nat.mul_comm, Nat.add_comm]
          exact Nat.div_add_mod _ _
        have FP : Hid (∀ i, dig (val F la) i = pad la F i) := dig_pad cF.out
        have Q9 : Hid (∀ i, i < lq → hq i ≤ 9) := CQ.out.1
        have G9 : Hid (∀ i, i < lb → G i ≤ 9) := cG.out.1
        have F9 : Hid (∀ i, i < la → F i ≤ 9) := cF.out.1
        clear hoA hoB rq CR CQ cF cG VQ VR hnl
        go_wp2
        go_loopw [12] (fun i wr => ∃ (k : Nat) (acc : Nat → Nat), k ≤ lq ∧ i = .int .i64 (k : Int) ∧ Owns wr 3 w6.heap.size (lq + lb) (by64 acc) ∧ Hid (val acc (lq + lb) = val hr lr + val hq k * val G lb) ∧ Hid (∀ m, acc m ≤ 9 + 82944 * k) ∧ Below w6.heap.size w6 wr) (fun i _ => lq - (intOf i).toNat)
        case atStart =>
          refine ⟨0, pad lr hr, by omega, rfl, hown, ?_, ?_, hnx⟩
          · show _ = _
            rw [pv.out]
            simp [val]
          · exact fun m => by have := p9.out m; omega
        case round =>
          obtain ⟨k, acc, hk, rfl, hown, hv, hbd, hnx⟩ := hrel
          clear pv p9
          by_cases hlt : k < lq
          · have tk : (k : Int) < lq := by omega
            go_wp2
            go_loopw [13] (fun sj wr => ∃ (j : Nat) (acc : Nat → Nat), j ≤ lb ∧ sj = .int .i64 (j : Int) ∧ Owns wr 3 w6.heap.size (lq + lb) (by64 acc) ∧ Hid (val acc (lq + lb) = val hr lr + val hq k * val G lb + hq k * 10 ^ k * val G j) ∧ Hid (∀ m, acc m ≤ 9 + 82944 * k + 81 * j) ∧ Below w6.heap.size w6 wr) (fun sj _ => lb - (intOf sj).toNat)
            case atStart =>
              refine ⟨0, acc, by omega, rfl, hown, ?_, ?_, hnx⟩
              · show _ = _
                rw [hv.out]
                simp [val]
              · exact fun m => by have := hbd.out m; omega
            case round =>
              obtain ⟨j, acc, hj, rfl, hown, hv, hbd, hnx⟩ := hrel
              by_cases hjl : j < lb
              · have gq : wr.cell? ⟨bq, k, none⟩ = some (.int .u8 (hq k : Int)) := (hnx.cell (p := ⟨bq, k, none⟩) (QC.out k hlt).2).trans (QC.out k hlt).1
                have gb : wr.cell? ⟨bB, j, none⟩ = some (.int .u8 (G j : Int)) := (hnx.cell (p := ⟨bB, j, none⟩) (BC.out j hjl).2).trans (BC.out j hjl).1
                have gacc : wr.cell? ⟨w6.heap.size, k + j, none⟩ = some (.int .i64 (acc (k + j) : Int)) := hown.cell (k + j) (by omega)
                have z1 := hown.frozen (k + j)
                have q9 := Q9.out k hlt
                have g9 := G9.out j hjl
                have ab := hbd.out (k + j)
                have m81 := mul81 q9 g9
                have hst := hown.set64 (k + j) (acc (k + j) + hq k * G j)
                have hbs := hnx.setCell (p := ⟨w6.heap.size, k + j, none⟩) (Nat.le_refl _) (.int .i64 ((acc (k + j) + hq k * G j : Nat) : Int))
                have HV : Hid (val (upd acc (k + j) (acc (k + j) + hq k * G j)) (lq + lb) = val hr lr + val hq k * val G lb + hq k * 10 ^ k * val G (j + 1)) := euclid_inner (by omega) hv.out rfl
                have HD : Hid (∀ m, upd acc (k + j) (acc (k + j) + hq k * G j) m ≤ 9 + 82944 * k + 81 * (j + 1)) := fun m => by
                  have := hbd.out m
                  unfold upd
                  split <;> omega
                rw [show ((acc (k + j) + hq k * G j : Nat) : Int) = (acc (k + j) : Int) + (hq k : Int) * (G j : Int) by rw [Int.natCast_add, Int.natCast_mul]] at hst hbs
                have HST := mkHid hst
                have HBS := mkHid hbs
                have j1 : (j : Int) < lb := by omega
                have j2 : (k : Int) + (j : Int) < ((lq + lb : Nat) : Int) := by omega
                have m1 : (hq k : Int) * (G j : Int) ≤ 81 := by rw [← Int.natCast_mul]; omega
                have m0 : 0 ≤ (hq k : Int) * (G j : Int) := by rw [← Int.natCast_mul]; omega
                clear hst hbs hown hnx hv hbd QC BC AC VN FP Q9 G9 F9 AL hBpos
                go_wp2
                go_region
                all_goals
                  go_wp2
                  go_roundw
                  case rel => exact ⟨j + 1, upd acc (k + j) (acc (k + j) + hq k * G j), by omega, by go_num, HST.out, HV, HD, HBS.out.drew⟩
                  case measure => simp [intOf]; omega
              · have tj : ¬ (j : Int) < lb := by omega
                have ej : j = lb := by omega
                rw [ej] at hv hbd
                have HV : Hid (val acc (lq + lb) = val hr lr + val hq (k + 1) * val G lb) := euclid_outer hv.out rfl
                have HD : Hid (∀ m, acc m ≤ 9 + 82944 * (k + 1)) := fun m => by have := hbd.out m; omega
                clear ej hj hv hbd
                go_wp2
                go_roundw
                case rel => exact ⟨k + 1, acc, by omega, by go_num, hown, HV, HD, hnx⟩
                case measure => simp [intOf]; omega
          · have tk : ¬ (k : Int) < lq := by omega
            have ek : k = lq := by omega
            rw [ek] at hv hbd
            clear ek hk
            have hv2 : val acc (lq + lb) = val F la := by rw [hv.out]; exact VN.out
            have hfin := mkHid (fin_digits hv2 AL.out)
            have M1 : ∀ m, acc m ≤ 84934665 := fun m => by have := hbd.out m; omega
            have CB := mkHid (cy_bound M1)
            have AB := mkHid M1
            clear hv hbd hv2 M1 VN AL QC BC Q9 G9
            go_wp2
            go_loopw [14, 15] (fun sc i wr => ∃ k c : Nat, k ≤ lq + lb ∧ i = .int .i64 (k : Int) ∧ sc = .int .i64 (c : Int) ∧ c ≤ 84934665 ∧ Hid (cy acc zf k = c) ∧ Owns wr 3 w6.heap.size (lq + lb) (by64 acc) ∧ Below w6.heap.size w6 wr) (fun _ i _ => lq + lb - (intOf i).toNat)
            case atStart => exact ⟨0, 0, by omega, rfl, rfl, by omega, (show _ = _ by rfl), hown, hnx⟩
            case round =>
              obtain ⟨k, c, hk, rfl, rfl, hc1, hc, hown, hnx⟩ := hrel
              by_cases hlt : k < lq + lb
              · have gacc : wr.cell? ⟨w6.heap.size, k, none⟩ = some (.int .i64 (acc k : Int)) := hown.cell k hlt
                have ab := AB.out k
                have tk : (k : Int) < ((lq + lb : Nat) : Int) := by omega
                obtain ⟨s, hs⟩ : ∃ s, acc k + c = s := ⟨_, rfl⟩
                have Es : (acc k : Int) + (c : Int) = (s : Int) := by omega
                have sb : s ≤ 169869330 := by omega
                have HC : Hid (cy acc zf (k + 1) = s / 10) := by
                  show _ = _
                  rw [cy, hc.out, ← hs]
                  simp [zf, Nat.add_comm]
                have hdg : s % 10 = pad la F k := by
                  have := hfin.out.2 k hlt
                  rw [hc.out, hs, FP.out k] at this
                  exact this
                have s10 : s / 10 ≤ 84934665 := by rw [← HC.out]; exact CB.out (k + 1)
                clear hs hc
                by_cases hla : k < la
                · have ga : wr.cell? ⟨bA, k, none⟩ = some (.int .u8 (F k : Int)) := (hnx.cell (p := ⟨bA, k, none⟩) (AC.out k hla).2).trans (AC.out k hla).1
                  have f9 := F9.out k hla
                  have tl1 : (k : Int) < la := by omega
                  rw [pad_in F hla] at hdg
                  have Ed : ((s : Int) % 10 != (F k : Int)) = false := by
                    have : (s : Int) % 10 = (F k : Int) := by omega
                    simp [this]
                  clear hdg AC FP F9 AB CB
                  go_wp2
                  go_roundw
                  case rel => exact ⟨k + 1, s / 10, by omega, by go_num, by go_num, s10, HC, hown, hnx⟩
                  case measure => simp [intOf]; omega
                · have tl1 : ¬ (k : Int) < la := by omega
                  rw [pad_out F hla] at hdg
                  have Ed : ((s : Int) % 10 != 0) = false := by
                    have : (s : Int) % 10 = 0 := by omega
                    simp [this]
                  clear hdg AC FP F9 AB CB
                  go_wp2
                  go_roundw
                  case rel => exact ⟨k + 1, s / 10, by omega, by go_num, by go_num, s10, HC, hown, hnx⟩
                  case measure => simp [intOf]; omega
              · have tk : ¬ (k : Int) < ((lq + lb : Nat) : Int) := by omega
                have ek : k = lq + lb := by omega
                rw [ek, hfin.out.1] at hc
                obtain rfl : c = 0 := hc.out.symm
                have hcx := below_size hc6 hnx
                clear hc hown hnx AC FP F9 AB CB hfin ek
                go_wp2
                go_ret
                exact ⟨rfl, hcx⟩
  · have e0 : lb = 0 := by omega
    subst e0
    go_wp2_with fail
    refine (divmod_no _ _ _ _ _ _ F G _ (by omega) (by omega) hoA.reads hoB.reads (fun h => hpos h.1)).mono ?_
    rintro e w3 ⟨rfl, hb3⟩
    have hc3 := below_size hc2 hb3
    clear hoA hoB hc2 hb3
    go_wp2
    go_ret
    exact ⟨rfl, hc3⟩

end Go.Proofs.Ymbrdu
