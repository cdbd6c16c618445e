import Derived.Test.YmbrdsFu
import Derived.Test.YmbrdsToU
namespace Go.Proofs.Ymbrds
open Go.RowKit

def lim (x e i : Nat) : Nat := if i = 0 then e else dig x (i - 1)

theorem dig_high {x j : Nat} (hx : x ≤ 18446744073709551615) (hj : 20 ≤ j) : dig x j = 0 := by
  have h1 : 10 ^ 20 ≤ 10 ^ j := pow_le10 hj
  rw [dig, Nat.div_eq_of_lt (by omega)]

theorem lim_val {x e m : Nat} (hx : x ≤ 18446744073709551615) : val (lim x e) (21 + m) = e + 10 * x := by
  rw [show 21 + m = (20 + m) + 1 by omega, val_low]
  have h1 : val (fun i => lim x e (i + 1)) (20 + m) = x := by
    rw [val_congr (g := dig x) (20 + m) (fun i _ => by simp [lim]), val_dig]
    have h1 : 10 ^ 20 ≤ 10 ^ (20 + m) := pow_le10 (by omega)
    rw [Nat.mod_eq_of_lt (by omega)]
  rw [h1]
  simp [lim]

def limK (x e k : Nat) : Nat → Nat := fun i => if i < k then lim x e i else 0

theorem limK_step {x e k u : Nat} (hk : 0 < k) (hu : u = x / 10 ^ (k - 1)) : ∀ i, upd (limK x e k) k (u % 10) i = limK x e (k + 1) i := by
  intro i
  unfold upd limK lim
  by_cases h1 : i = k
  · subst h1
    simp [show i ≠ 0 by omega, dig, hu]
  · rw [if_neg h1]
    by_cases h2 : i < k
    · simp only [if_pos h2, if_pos (show i < k + 1 by omega)]
    · simp only [if_neg h2, if_neg (show ¬ i < k + 1 by omega)]

theorem limK_end {x e m : Nat} (hx : x ≤ 18446744073709551615) : ∀ i, i < m → limK x e 21 i = lim x e i := by
  intro i _
  unfold limK
  by_cases h : i < 21
  · rw [if_pos h]
  · rw [if_neg h, lim, if_neg (by omega), dig_high hx (by omega)]

theorem lim_255 {x e : Nat} (he : e ≤ 9) (j : Nat) : lim x e j ≤ 255 := by
  unfold lim
  have := dig_le x (j - 1)
  split <;> omega

theorem dl_step {x k u : Nat} (hk : 0 < k) (hu : u = x / 10 ^ (k - 1)) : u / 10 = x / 10 ^ (k + 1 - 1) := by
  rw [hu, Nat.div_div_eq_div_mul, ← Nat.pow_succ, show (k - 1).succ = k + 1 - 1 by omega]

theorem three_way (x y : Nat) : x < y ∨ (x ≤ y ∧ y ≤ x) ∨ y < x := by omega

set_option maxHeartbeats 1000000 in
theorem dlimit_at (w : World) (v : Nat) (hv : v ≤ 18446744073709551615) (near : Bool) (d z : Nat) (hd : d ≤ 255) (hz : z ≤ 255) (x e m : Nat) (hx : x ≤ 18446744073709551615)
    (hnear : (near = true ∧ x = 1844674407370955157 + v % 8) ∨ (near = false ∧ x = v)) (he : e = d % 10) (hm : m = z % 8) :
    Calls Ydsm.prog 12 #[.int .u64 (v : Int), .bool near, .int .u8 (d : Int), .int .u8 (z : Int)] w fun e w' => e = .returned (.bool true) ∧ Below w.heap.size w w' := by
  have HX : Hid (x ≤ 18446744073709551615) := hx
  have he9 : e ≤ 9 := by omega
  have Ed : (d : Int) % 10 = (e : Int) := by omega
  have Ez : (z : Int) % 8 = (m : Int) := by omega
  have hm7 : m ≤ 7 := by omega
  have hz0 : ¬ (z : Int) < 0 := by omega
  rcases hnear with ⟨rfl, hxn⟩ | ⟨rfl, hxn⟩
  · have Ex : 1844674407370955157 + (v : Int) % 8 = (x : Int) := by omega
    clear he hm hxn
    go_enter Ydsm.func12, Ydsm.ntmps12
    go_wp2_with (at_make; refine wpList_mk _ rfl _ _ 23 rfl 5 (.int .u8 0) 1 Ydsm.underlying23 Ydsm.info5 rfl _ _ _ _ (21 + m) rfl rfl (by omega) (by omega) (by omega) (by unfold maxLen; omega) ?_)
    intro w1 ho0 hb1
    have ho : Owns w1 5 w.heap.size (21 + m) (by8 (fun _ => 0)) := ho0
    have hc0 := ho.cell 0 (by omega)
    have hf0 := ho.frozen 0
    have ho1 := ho.set8 0 e
    have hb2 := hb1.setCell (p := ⟨w.heap.size, 0, none⟩) (Nat.le_refl _) (.int .u8 (e : Int))
    have HO1 : Hid (Owns (w1.setCell ⟨w.heap.size, 0, none⟩ (.int .u8 (e : Int))) 5 w.heap.size (21 + m) (by8 (upd (fun _ => 0) 0 e))) := ho1
    have HB2 : Hid (Below w.heap.size w (w1.setCell ⟨w.heap.size, 0, none⟩ (.int .u8 (e : Int)))) := hb2
    clear ho ho0 ho1 hb1 hb2
    have hlen : (0 : Int) < ((21 + m : Nat) : Int) := by omega
    go_wp2
    clear hc0 hf0
    go_loopw [12, 13] (fun sy i wr => ∃ k u : Nat, 1 ≤ k ∧ k ≤ 21 ∧ i = .int .i64 (k : Int) ∧ sy = .int .u64 (u : Int) ∧ u ≤ 18446744073709551615 ∧ Hid (u = x / 10 ^ (k - 1)) ∧ Owns wr 5 w.heap.size (21 + m) (by8 (limK x e k)) ∧ Below w.heap.size w wr) (fun _ i _ => 21 - (intOf i).toNat)
    case atStart =>
      refine ⟨1, x, by omega, by omega, rfl, rfl, hx, (show _ = _ by simp), ?_, HB2.out⟩
      refine HO1.out.congr fun i _ => ?_
      unfold by8 upd limK lim
      by_cases h : i = 0 <;> simp [h]
    case round =>
      obtain ⟨k, u, hk1, hk2, rfl, rfl, hu1, hu, hown, hnx⟩ := hrel
      clear HO1 HB2
      by_cases hlt : k ≤ 20
      · have hc := hown.cell k (by omega)
        have hf := hown.frozen k
        have hst := hown.set8 k (u % 10)
        have HST : Hid (Owns (wr.setCell ⟨w.heap.size, k, none⟩ (.int .u8 ((u : Int) % 10))) 5 w.heap.size (21 + m) (by8 (limK x e (k + 1)))) := by
          show Owns _ _ _ _ _
          have := hst.congr (G := by8 (limK x e (k + 1))) (fun i _ => by unfold by8; rw [limK_step (by omega) hu.out])
          simpa using this
        have HB : Hid (Below w.heap.size w (wr.setCell ⟨w.heap.size, k, none⟩ (.int .u8 ((u : Int) % 10)))) := hnx.setCell (p := ⟨w.heap.size, k, none⟩) (Nat.le_refl _) _
        have hkl : (k : Int) < ((21 + m : Nat) : Int) := by omega
        have HU : Hid (u / 10 = x / 10 ^ (k + 1 - 1)) := dl_step (by omega) hu.out
        clear hst hown hnx hu
        go_wp2
        go_roundw
        case rel => exact ⟨k + 1, u / 10, by omega, by omega, by go_num, by go_num, by omega, HU, HST.out, HB.out⟩
        case measure => simp [intOf]; omega
      · obtain rfl : k = 21 := by omega
        have hr : Reads wr (some ⟨w.heap.size, 0, none⟩) (21 + m) (lim x e) := hown.reads.congr (limK_end hx)
        clear hown hu
        go_wp2_with fail
        refine (toUint64_any _ _ _ (lim x e) _ (by omega) hr (lim_255 he9) (e + 10 * x) (lim_val hx)).mono ?_
        rintro e' w2 ⟨he1, he2, hb3⟩
        have hcx := below_size hnx hb3
        clear hr hnx hb3
        rcases three_way x 1844674407370955161 with t1 | ⟨t1, t2⟩ | t1
        · obtain rfl := he1 (by omega)
          have t1' : (x : Int) < 1844674407370955161 := by omega
          clear he1 he2 t1
          go_wp2
          go_ret
          exact ⟨ret_b (beq_iff_eq.2 (by omega)), hcx⟩
        · by_cases t3 : e ≤ 5
          · obtain rfl := he1 (by omega)
            have t1' : decide ((x : Int) < 1844674407370955161) = false := by simp; omega
            have t2' : ((x : Int) == 1844674407370955161) = true := beq_iff_eq.2 (by omega)
            have t5' : decide ((e : Int) ≤ 5) = true := by simp; omega
            have t6' : (x : Int) ≤ 1844674407370955161 := by omega
            have t7' : (e : Int) ≤ 5 := by omega
            clear he1 he2 t1 t2 t3
            go_wp2
            go_ret
            exact ⟨ret_b (beq_iff_eq.2 (by omega)), hcx⟩
          · obtain rfl := he2 (by omega)
            have t1' : decide ((x : Int) < 1844674407370955161) = false := by simp; omega
            have t2' : ((x : Int) == 1844674407370955161) = true := beq_iff_eq.2 (by omega)
            have t5' : decide ((e : Int) ≤ 5) = false := by simp; omega
            clear he1 he2 t1 t2 t3
            go_wp2
            go_ret
            exact ⟨rfl, hcx⟩
        · obtain rfl := he2 (by omega)
          have t1' : decide ((x : Int) < 1844674407370955161) = false := by simp; omega
          have t2' : ((x : Int) == 1844674407370955161) = false := beq_eq_false_iff_ne.2 (by omega)
          clear he1 he2 t1
          go_wp2
          go_ret
          exact ⟨rfl, hcx⟩
  · subst hxn
    clear he hm
    go_enter Ydsm.func12, Ydsm.ntmps12
    go_wp2_with (at_make; refine wpList_mk _ rfl _ _ 23 rfl 5 (.int .u8 0) 1 Ydsm.underlying23 Ydsm.info5 rfl _ _ _ _ (21 + m) rfl rfl (by omega) (by omega) (by omega) (by unfold maxLen; omega) ?_)
    intro w1 ho0 hb1
    have ho : Owns w1 5 w.heap.size (21 + m) (by8 (fun _ => 0)) := ho0
    have hc0 := ho.cell 0 (by omega)
    have hf0 := ho.frozen 0
    have ho1 := ho.set8 0 e
    have hb2 := hb1.setCell (p := ⟨w.heap.size, 0, none⟩) (Nat.le_refl _) (.int .u8 (e : Int))
    have HO1 : Hid (Owns (w1.setCell ⟨w.heap.size, 0, none⟩ (.int .u8 (e : Int))) 5 w.heap.size (21 + m) (by8 (upd (fun _ => 0) 0 e))) := ho1
    have HB2 : Hid (Below w.heap.size w (w1.setCell ⟨w.heap.size, 0, none⟩ (.int .u8 (e : Int)))) := hb2
    clear ho ho0 ho1 hb1 hb2
    have hlen : (0 : Int) < ((21 + m : Nat) : Int) := by omega
    go_wp2
    clear hc0 hf0
    go_loopw [12, 13] (fun sy i wr => ∃ k u : Nat, 1 ≤ k ∧ k ≤ 21 ∧ i = .int .i64 (k : Int) ∧ sy = .int .u64 (u : Int) ∧ u ≤ 18446744073709551615 ∧ Hid (u = x / 10 ^ (k - 1)) ∧ Owns wr 5 w.heap.size (21 + m) (by8 (limK x e k)) ∧ Below w.heap.size w wr) (fun _ i _ => 21 - (intOf i).toNat)
    case atStart =>
      refine ⟨1, x, by omega, by omega, rfl, rfl, hx, (show _ = _ by simp), ?_, HB2.out⟩
      refine HO1.out.congr fun i _ => ?_
      unfold by8 upd limK lim
      by_cases h : i = 0 <;> simp [h]
    case round =>
      obtain ⟨k, u, hk1, hk2, rfl, rfl, hu1, hu, hown, hnx⟩ := hrel
      clear HO1 HB2
      by_cases hlt : k ≤ 20
      · have hc := hown.cell k (by omega)
        have hf := hown.frozen k
        have hst := hown.set8 k (u % 10)
        have HST : Hid (Owns (wr.setCell ⟨w.heap.size, k, none⟩ (.int .u8 ((u : Int) % 10))) 5 w.heap.size (21 + m) (by8 (limK x e (k + 1)))) := by
          show Owns _ _ _ _ _
          have := hst.congr (G := by8 (limK x e (k + 1))) (fun i _ => by unfold by8; rw [limK_step (by omega) hu.out])
          simpa using this
        have HB : Hid (Below w.heap.size w (wr.setCell ⟨w.heap.size, k, none⟩ (.int .u8 ((u : Int) % 10)))) := hnx.setCell (p := ⟨w.heap.size, k, none⟩) (Nat.le_refl _) _
        have hkl : (k : Int) < ((21 + m : Nat) : Int) := by omega
        have HU : Hid (u / 10 = x / 10 ^ (k + 1 - 1)) := dl_step (by omega) hu.out
        clear hst hown hnx hu
        go_wp2
        go_roundw
        case rel => exact ⟨k + 1, u / 10, by omega, by omega, by go_num, by go_num, by omega, HU, HST.out, HB.out⟩
        case measure => simp [intOf]; omega
      · obtain rfl : k = 21 := by omega
        have hr : Reads wr (some ⟨w.heap.size, 0, none⟩) (21 + m) (lim x e) := hown.reads.congr (limK_end hx)
        clear hown hu
        go_wp2_with fail
        refine (toUint64_any _ _ _ (lim x e) _ (by omega) hr (lim_255 he9) (e + 10 * x) (lim_val hx)).mono ?_
        rintro e' w2 ⟨he1, he2, hb3⟩
        have hcx := below_size hnx hb3
        clear hr hnx hb3
        rcases three_way x 1844674407370955161 with t1 | ⟨t1, t2⟩ | t1
        · obtain rfl := he1 (by omega)
          have t1' : (x : Int) < 1844674407370955161 := by omega
          clear he1 he2 t1
          go_wp2
          go_ret
          exact ⟨ret_b (beq_iff_eq.2 (by omega)), hcx⟩
        · by_cases t3 : e ≤ 5
          · obtain rfl := he1 (by omega)
            have t1' : decide ((x : Int) < 1844674407370955161) = false := by simp; omega
            have t2' : ((x : Int) == 1844674407370955161) = true := beq_iff_eq.2 (by omega)
            have t5' : decide ((e : Int) ≤ 5) = true := by simp; omega
            have t6' : (x : Int) ≤ 1844674407370955161 := by omega
            have t7' : (e : Int) ≤ 5 := by omega
            clear he1 he2 t1 t2 t3
            go_wp2
            go_ret
            exact ⟨ret_b (beq_iff_eq.2 (by omega)), hcx⟩
          · obtain rfl := he2 (by omega)
            have t1' : decide ((x : Int) < 1844674407370955161) = false := by simp; omega
            have t2' : ((x : Int) == 1844674407370955161) = true := beq_iff_eq.2 (by omega)
            have t5' : decide ((e : Int) ≤ 5) = false := by simp; omega
            clear he1 he2 t1 t2 t3
            go_wp2
            go_ret
            exact ⟨rfl, hcx⟩
        · obtain rfl := he2 (by omega)
          have t1' : decide ((x : Int) < 1844674407370955161) = false := by simp; omega
          have t2' : ((x : Int) == 1844674407370955161) = false := beq_eq_false_iff_ne.2 (by omega)
          clear he1 he2 t1
          go_wp2
          go_ret
          exact ⟨rfl, hcx⟩

theorem law_DLimit (w : World) (x0 : Nat) (h0 : x0 ≤ 18446744073709551615) (a1 : Bool) (x2 : Nat) (h2 : x2 ≤ 255) (x3 : Nat) (h3 : x3 ≤ 255) :
    Calls Ydsm.prog 12 #[.int .u64 (x0 : Int), .bool a1, .int .u8 (x2 : Int), .int .u8 (x3 : Int)] w fun e w' => e = .returned (.bool true) ∧ Below w.heap.size w w' := by
  cases a1 with
  | true => exact dlimit_at w x0 h0 true x2 x3 h2 h3 (1844674407370955157 + x0 % 8) _ _ (by omega) (.inl ⟨rfl, rfl⟩) rfl rfl
  | false => exact dlimit_at w x0 h0 false x2 x3 h2 h3 x0 _ _ h0 (.inr ⟨rfl, rfl⟩) rfl rfl

end Go.Proofs.Ymbrds
