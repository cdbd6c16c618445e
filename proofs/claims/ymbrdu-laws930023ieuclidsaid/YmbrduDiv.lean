import Derived.Test.YmbrduSub
import Derived.Test.YmbrduVld
import Derived.Test.YmbrduPsh
import Derived.Test.YmbrduPlainD
namespace Go.Proofs.Ymbrdu
open Go.RowKit

def cellNat (w : World) (g i : Nat) : Nat := match w.cell? ⟨g, i, none⟩ with
  | some (.int _ n) => n.toNat
  | _ => 0

theorem cellNat_of {w : World} {g i v : Nat} (h : w.cell? ⟨g, i, none⟩ = some (.int .u8 (v : Int))) : cellNat w g i = v := by
  unfold cellNat; rw [h]; simp

def quoK (D : Nat → Nat) (k : Nat) : Nat → Nat := fun i => if k ≤ i then D i else 0

theorem quoK_step (D : Nat → Nat) (i : Nat) : upd (quoK D (i + 1)) i (D i) = quoK D i := by
  funext j
  unfold upd quoK
  by_cases e : j = i
  · subst e; simp
  · rw [if_neg e]
    by_cases h : i + 1 ≤ j
    · rw [if_pos h, if_pos (by omega)]
    · rw [if_neg h, if_neg (by omega)]

theorem quoK_at (D : Nat → Nat) (i : Nat) : quoK D (i + 1) i = 0 := by unfold quoK; rw [if_neg (by omega)]

def DivOut (w w' : World) (e : Ending) (N0 N1 A B : Nat) : Prop :=
  ∃ bq tq ar nr cr hq hr, e = .returned (.tuple #[.slice (some ⟨bq, 0, none⟩) tq tq, .slice ar nr cr, .bool true]) ∧ tq ≤ N0 ∧ nr ≤ N1 ∧ Canon tq hq ∧ val hq tq = A / B ∧ Reads w' (some ⟨bq, 0, none⟩) tq hq ∧
    Canon nr hr ∧ val hr nr = A % B ∧ Reads w' ar nr hr ∧ Below w.heap.size w w'

theorem DivOut.make {w w' : World} {e : Ending} {N0 N1 A B : Nat} (bq tq : Nat) (ar : Option Addr) (nr cr : Nat) (hq hr : Nat → Nat) (h1 : e = .returned (.tuple #[.slice (some ⟨bq, 0, none⟩) tq tq, .slice ar nr cr, .bool true]))
    (h2 : tq ≤ N0) (h3 : nr ≤ N1) (h4 : Canon tq hq) (h5 : val hq tq = A / B) (h6 : Reads w' (some ⟨bq, 0, none⟩) tq hq) (h7 : Canon nr hr) (h8 : val hr nr = A % B) (h9 : Reads w' ar nr hr) (h10 : Below w.heap.size w w') : DivOut w w' e N0 N1 A B :=
  ⟨bq, tq, ar, nr, cr, hq, hr, h1, h2, h3, h4, h5, h6, h7, h8, h9, h10⟩

set_option maxHeartbeats 400000 in
theorem divmod_no (a0 a1 : Option Addr) (n0 c0 n1 c1 : Nat) (f g : Nat → Nat) (w : World) (hn0 : n0 ≤ 1073741824) (hn1 : n1 ≤ 1073741824)
    (hf : Reads w a0 n0 f) (hg : Reads w a1 n1 g) (hno : ¬ (0 < n1 ∧ Canon n0 f ∧ Canon n1 g)) :
    Calls Ydum.prog 15 #[.slice a0 n0 c0, .slice a1 n1 c1] w fun e w' => e = .returned (.tuple #[.slice none 0 0, .slice none 0 0, .bool false]) ∧ Below w.heap.size w w' := by
  have HF := mkHid hf
  have HG := mkHid hg
  clear hf hg
  rcases Nat.eq_zero_or_pos n1 with rfl | hpos
  · clear hno
    go_enter Ydum.func15, Ydum.ntmps15
    go_wp2
    go_ret3
    exact ⟨rfl, Below.refl _ _⟩
  have q1 : ((n1 : Int) == 0) = false := beq_eq_false_iff_ne.2 (by omega)
  by_cases hc0 : Canon n0 f
  · have hv0 := mkHid (vldB_true hc0)
    have hv1 : Hid (vldB n1 g = false) := vldB_false (fun h => hno ⟨hpos, hc0, h⟩)
    clear hno hc0
    go_enter Ydum.func15, Ydum.ntmps15
    go_wp2_with fail
    refine (valid_any _ _ _ f _ (by omega) HF.out).mono ?_
    rw [hv0.out]
    rintro e w1 ⟨rfl, hb1⟩
    have hg1 := HG.out.later hb1
    go_wp2_with fail
    refine (valid_any _ _ _ g _ (by omega) hg1).mono ?_
    rw [hv1.out]
    rintro e w2 ⟨rfl, hb2⟩
    have hc := below_size hb1 hb2
    clear hb1 hb2 hg1
    go_wp2
    go_ret3
    exact ⟨rfl, hc⟩
  · have hv0 := mkHid (vldB_false hc0)
    clear hno hc0
    go_enter Ydum.func15, Ydum.ntmps15
    go_wp2_with fail
    refine (valid_any _ _ _ f _ (by omega) HF.out).mono ?_
    rw [hv0.out]
    rintro e w1 ⟨rfl, hb1⟩
    go_wp2
    go_ret3
    exact ⟨rfl, hb1⟩

set_option maxHeartbeats 1000000 in
theorem divmod_yes (a0 a1 : Option Addr) (n0 c0 n1 c1 : Nat) (f g : Nat → Nat) (w : World) (hn0 : n0 ≤ 1048576) (hn1 : n1 ≤ 1048576)
    (hf : Reads w a0 n0 f) (hg : Reads w a1 n1 g) (hpos : 0 < n1) (cf : Canon n0 f) (cg : Canon n1 g) (A B : Nat) (eA : val f n0 = A) (eB : val g n1 = B) :
    Calls Ydum.prog 15 #[.slice a0 n0 c0, .slice a1 n1 c1] w fun e w' => DivOut w w' e n0 n1 A B := by
  have hB : 0 < B := by rw [← eB]; exact cg.nd.pos.2 hpos
  have CF := mkHid cf
  have CG := mkHid cg
  have EA := mkHid eA
  have EB := mkHid eB
  have hv0 := mkHid (vldB_true cf)
  have hv1 := mkHid (vldB_true cg)
  have AL : Hid (A < 10 ^ n0) := by show _ < _; rw [← eA]; exact cf.nd.1
  have FD : Hid (∀ i, i < n0 → f i = dig A i) := fun i hi => by rw [← eA]; exact (dig_val n0 cf.1 i hi).symm
  have HF := mkHid hf
  have HG := mkHid hg
  have q1 : ((n1 : Int) == 0) = false := beq_eq_false_iff_ne.2 (by omega)
  clear hf hg cf cg eA eB
  go_enter Ydum.func15, Ydum.ntmps15
  go_wp2_with fail
  refine (valid_any _ _ _ f _ (by omega) HF.out).mono ?_
  rw [hv0.out]
  rintro e w1 ⟨rfl, hb1⟩
  go_wp2_with fail
  refine (valid_any _ _ _ g _ (by omega) (HG.out.later hb1)).mono ?_
  rw [hv1.out]
  rintro e w2 ⟨rfl, hb2⟩
  have hc2 := below_size hb1 hb2
  have hs2 := hc2.size
  obtain ⟨ba, oa, ha, hA⟩ := HF.out.later hc2
  have G2 := mkHid (HG.out.later hc2)
  have HA := mkHid hA
  have Ha := mkHid ha
  clear hA ha HF HG hb1 hb2 hv0 hv1
  go_wp2_with (at_make; refine wpList_mk _ rfl _ _ 24 rfl 5 (.int .u8 0) 1 Ydum.underlying24 Ydum.info5 rfl _ _ _ _ n0 rfl rfl (by omega) (by omega) (by omega) (by unfold maxLen; omega) ?_)
  intro w3 ho3 hb3
  go_wp2
  go_loopw [8, 9] (fun sr i wr => ∃ (k : Nat) (ar : Option Addr) (nr cr : Nat) (h : Nat → Nat), k ≤ n0 ∧ i = .int .i64 ((k : Int) - 1) ∧ sr = .slice ar nr cr ∧ nr ≤ n1 ∧ Reads wr ar nr h ∧ Hid (Canon nr h ∧ val h nr = A / 10 ^ k % B) ∧
      Owns wr 5 w2.heap.size n0 (by8 (quoK (dig (A / B)) k)) ∧ Below w2.heap.size w2 wr) (fun _ i _ => (intOf i + 1).toNat)
  case atStart =>
    refine ⟨n0, none, 0, 0, fun _ => 0, by omega, rfl, rfl, by omega, Reads.nil _ _ _, ⟨⟨fun i hi => by omega, fun h => by omega⟩, ?_⟩, ho3.congr fun i hi => ?_, hb3⟩
    · rw [Nat.div_eq_of_lt AL.out, Nat.zero_mod]; rfl
    · unfold by8 quoK
      rw [if_neg (by omega)]
      rfl
  case round =>
    obtain ⟨k, ar, nr, cr, h, hk, rfl, rfl, hnr, hr, hh, hown, hnx⟩ := hrel
    clear ho3 hb3
    cases k with
    | zero =>
      have fin1 : Hid (Canon (tl (dig (A / B)) n0) (dig (A / B)) ∧ val (dig (A / B)) (tl (dig (A / B)) n0) = A / B) :=
        ⟨tl_canon (fun i _ => dig_le _ _), by rw [tl_val, dm_quo A B n0 AL.out]⟩
      have hown' : Owns wr 5 w2.heap.size n0 (by8 (dig (A / B))) := hown.congr fun i hi => by unfold by8 quoK; rw [if_pos (by omega)]
      clear hown HA Ha G2
      have htl := tl_le (dig (A / B)) n0
      go_wp2_with fail
      refine (trim_any _ _ _ (dig (A / B)) _ (by omega) (Nat.le_refl _) (by omega) hown'.reads).mono ?_
      rintro e w4 ⟨b, rfl, hbge, ho4, hb4⟩
      have hr4 := hr.later hb4
      have hc4 := below_size hc2 (below_later hnx hb4 hnx.size)
      clear hown' hnx hb4 hr
      go_wp2
      go_ret3
      refine DivOut.make b _ ar nr cr (dig (A / B)) h rfl htl hnr fin1.out.1 fin1.out.2 ho4.reads hh.out.1 ?_ hr4 hc4
      rw [hh.out.2]
      simp
    | succ i =>
      obtain ⟨rfl, hba⟩ := Ha.out (by omega)
      have hin : i < n0 := by omega
      have ga : wr.cell? ⟨ba, oa + i, none⟩ = some (.int .u8 (dig A i : Int)) := by
        rw [hnx.cell (p := ⟨ba, oa + i, none⟩) hba, HA.out i hin, FD.out i hin]
      have hj : (i : Int) < n0 := by omega
      have d9 := dig_le A i
      rw [show ((i + 1 : Nat) : Int) - 1 = (i : Int) by omega]
      obtain ⟨R, hR⟩ : ∃ R, R = 10 * (A / 10 ^ (i + 1) % B) + dig A i := ⟨_, rfl⟩
      have HR := mkHid hR
      have endq : Hid (dig (A / B) i = R / B) := by show _ = _; rw [dm_digit A B i hB, hR]
      have endr : Hid (A / 10 ^ i % B = R % B) := by show _ = _; rw [dm_rem A B i hB, hR]
      have hp : Hid (Canon (tl (psh (dig A i) h) (nr + 1)) (psh (dig A i) h) ∧ val (psh (dig A i) h) (tl (psh (dig A i) h) (nr + 1)) = R) :=
        ⟨tl_canon (psh_digits d9 hh.out.1.1), by rw [tl_val, psh_val, hh.out.2, hR]; omega⟩
      have htl := tl_le (psh (dig A i) h) (nr + 1)
      clear hR hh
      go_wp2_with fail
      refine (pushLow_any _ _ _ (dig A i) h _ (by omega) hr).mono ?_
      rintro e w4 ⟨b4, rfl, hbge4, ho4, hb4⟩
      have hown4 := hown.later hb4
      have hc4 := below_later hnx hb4 hnx.size
      have r4 := ho4.reads
      clear hr hown hnx hb4 ho4 ga hbge4
      go_wp2
      go_loopw [8] (fun sr wr => ∃ (ar : Option Addr) (nr cr : Nat) (h : Nat → Nat) (j : Nat), sr = .slice ar nr cr ∧ nr ≤ n1 + 1 ∧ j ≤ 9 ∧ Reads wr ar nr h ∧ Hid (Canon nr h ∧ val h nr + j * B = R) ∧
          Owns wr 5 w2.heap.size n0 (by8 (upd (quoK (dig (A / B)) (i + 1)) i j)) ∧ Below w2.heap.size w2 wr) (fun _ wr => 10 - cellNat wr w2.heap.size i)
      case atStart =>
        refine ⟨_, _, _, psh (dig A i) h, 0, rfl, by omega, by omega, r4, ⟨hp.out.1, by rw [hp.out.2]; simp⟩, hown4.congr fun m hm => ?_, hc4⟩
        unfold by8 upd
        by_cases e : m = i
        · rw [if_pos e, e, quoK_at]
        · rw [if_neg e]
      case round =>
        obtain ⟨ar, nr, cr, h, j, rfl, hnr, hj9, hr, hh, hown, hnx⟩ := hrel
        clear r4 hown4 hc4 hp htl
        have hrb := G2.out.later hnx
        have hcell := hown.cell i hin
        have hcellj : wr.cell? ⟨w2.heap.size, i, none⟩ = some (.int .u8 (j : Int)) := by rw [hcell]; unfold by8; rw [upd_same]
        have hm := cellNat_of hcellj
        by_cases hge : B ≤ val h nr
        · obtain ⟨x, hx, x0⟩ : ∃ x, Hid (cmpF nr h n1 g = x) ∧ 0 ≤ x := by
            refine ⟨_, rfl, ?_⟩
            rw [cmpF_sgn hh.out.1 CG.out, sgn, EB.out, if_neg (by omega)]
            split <;> decide
          have hj1 := dm_j hh.out.2 hge HR.out d9 hB
          have hnext := mkHid (dm_next hh.out.2 hge)
          go_wp2_with fail
          refine (compare_any _ _ _ _ _ _ h g _ (by omega) (by omega) hr hrb).mono ?_
          rw [hx.out]
          rintro e w5 ⟨rfl, hb5⟩
          replace hr := hr.later hb5
          replace hrb := hrb.later hb5
          replace hown := hown.later hb5
          have hc5 := below_later hnx hb5 hnx.size
          clear hnx hb5 hx hcell hcellj
          go_wp2_with fail
          refine (sub_ge _ _ _ _ _ _ h g _ (by omega) (by omega) hr hrb hh.out.1 CG.out (by rw [EB.out]; exact hge)).mono ?_
          rintro e w6 ⟨b6, t6, h6, rfl, hbge6, htn6, hct6, hvt6, ho6, hb6⟩
          have hlt5 := hown.lt
          replace hown := hown.later hb6
          have hc6 := below_later hc5 hb6 hc5.size
          have hc6' : w6.cell? ⟨w2.heap.size, i, none⟩ = some (.int .u8 (j : Int)) := by rw [hown.cell i hin]; unfold by8; rw [upd_same]
          have hz6 := hown.frozen i
          have hst := hown.set8 i (j + 1)
          have eqf : ∀ m, upd (upd (quoK (dig (A / B)) (i + 1)) i j) i (j + 1) m = upd (quoK (dig (A / B)) (i + 1)) i (j + 1) m := fun m => by
            unfold upd
            by_cases e : m = i
            · rw [if_pos e, if_pos e]
            · rw [if_neg e, if_neg e, if_neg e]
          replace hst := hst.congr (G := by8 (upd (quoK (dig (A / B)) (i + 1)) i (j + 1))) (fun m _ => by unfold by8; rw [eqf])
          have hbs := hc6.setCell (p := ⟨w2.heap.size, i, none⟩) (Nat.le_refl _) (.int .u8 ((j + 1 : Nat) : Int))
          have hne : b6 ≠ w2.heap.size := by omega
          have hr6 := (ho6.otherCell ⟨w2.heap.size, i, none⟩ (.int .u8 ((j + 1 : Nat) : Int)) hne).reads
          have hm6 : cellNat (w6.setCell ⟨w2.heap.size, i, none⟩ (.int .u8 ((j + 1 : Nat) : Int))) w2.heap.size i = j + 1 := cellNat_of (by rw [hst.cell i hin]; unfold by8; rw [upd_same])
          have HREL : Hid (Canon t6 h6 ∧ val h6 t6 + (j + 1) * B = R) := ⟨hct6, by rw [hvt6, EB.out]; exact hnext.out⟩
          have HST := mkHid hst
          have HBS := mkHid hbs
          have HR6 := mkHid hr6
          have HM6 := mkHid hm6
          have HM := mkHid hm
          clear hst hbs hr6 hm6 hm hct6 hvt6 ho6 hb6 hown hr hrb hh hnext hc5 hc6 eqf
          go_wp2
          go_roundw
          case rel => exact ⟨_, t6, t6, h6, j + 1, rfl, by omega, hj1, HR6.out, HREL, HST.out, HBS.out⟩
          case measure =>
            show 10 - cellNat (w6.setCell ⟨w2.heap.size, i, none⟩ (.int .u8 ((j + 1 : Nat) : Int))) w2.heap.size i < 10 - cellNat wr w2.heap.size i
            rw [HM6.out, HM.out]
            omega
        · have hx : Hid (cmpF nr h n1 g = -1) := by
            show _ = _
            rw [cmpF_sgn hh.out.1 CG.out, sgn, EB.out, if_pos (by omega)]
          have hend := mkHid (dm_end hh.out.2 (by omega))
          have hnr' : nr ≤ n1 := canon_len hh.out.1 CG.out (by rw [EB.out]; omega)
          go_wp2_with fail
          refine (compare_any _ _ _ _ _ _ h g _ (by omega) (by omega) hr hrb).mono ?_
          rw [hx.out]
          rintro e w5 ⟨rfl, hb5⟩
          replace hr := hr.later hb5
          replace hown := hown.later hb5
          have hc5 := below_later hnx hb5 hnx.size
          have hown' : Owns w5 5 w2.heap.size n0 (by8 (quoK (dig (A / B)) i)) := hown.congr fun m _ => by
            unfold by8
            rw [hend.out.1, ← endq.out, quoK_step]
          have HREL : Hid (Canon nr h ∧ val h nr = A / 10 ^ i % B) := ⟨hh.out.1, by rw [endr.out]; exact hend.out.2⟩
          clear hx hcell hcellj hm hown hnx hb5 hrb hh hend
          go_wp2
          go_roundw
          case rel => exact ⟨i, ar, nr, cr, h, by omega, rfl, rfl, hnr', hr, HREL, hown', hc5⟩
          case measure => simp [intOf]

end Go.Proofs.Ymbrdu
