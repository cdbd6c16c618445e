import Derived.Test.YmbrduPrs
import Derived.Test.YmbrduLPad
namespace Go.Proofs.Ymbrdu
open Go.RowKit

theorem owns_zero32 (w : World) (T : TypeId) : Owns (w.alloc (.cells #[.int .u8 0, .int .u8 0, .int .u8 0, .int .u8 0, .int .u8 0, .int .u8 0, .int .u8 0, .int .u8 0, .int .u8 0, .int .u8 0, .int .u8 0, .int .u8 0, .int .u8 0, .int .u8 0, .int .u8 0, .int .u8 0, .int .u8 0, .int .u8 0, .int .u8 0, .int .u8 0, .int .u8 0, .int .u8 0, .int .u8 0, .int .u8 0, .int .u8 0, .int .u8 0, .int .u8 0, .int .u8 0, .int .u8 0, .int .u8 0, .int .u8 0, .int .u8 0] T)) T w.heap.size 32 (by8 (fun _ => 0)) :=
  ⟨_, heap_alloc_new w _, by simp, fun i hi => match i, hi with
    | 0, _ => rfl
    | 1, _ => rfl
    | 2, _ => rfl
    | 3, _ => rfl
    | 4, _ => rfl
    | 5, _ => rfl
    | 6, _ => rfl
    | 7, _ => rfl
    | 8, _ => rfl
    | 9, _ => rfl
    | 10, _ => rfl
    | 11, _ => rfl
    | 12, _ => rfl
    | 13, _ => rfl
    | 14, _ => rfl
    | 15, _ => rfl
    | 16, _ => rfl
    | 17, _ => rfl
    | 18, _ => rfl
    | 19, _ => rfl
    | 20, _ => rfl
    | 21, _ => rfl
    | 22, _ => rfl
    | 23, _ => rfl
    | 24, _ => rfl
    | 25, _ => rfl
    | 26, _ => rfl
    | 27, _ => rfl
    | 28, _ => rfl
    | 29, _ => rfl
    | 30, _ => rfl
    | 31, _ => rfl
    | n + 32, h => absurd h (by omega)⟩

def kvF (v K : Nat) : Nat → Nat := fun j => if 32 - K ≤ j then 48 + dig v (31 - j) else 0

theorem kvF_step {v K a c : Nat} (ha : a + 1 + K = 32) (hc : c = 48 + dig v K) : ∀ i, i < 32 → upd (kvF v K) a c i = kvF v (K + 1) i := by
  intro i hi
  unfold upd kvF
  by_cases e : i = a
  · rw [if_pos e, if_pos (by omega), show 31 - i = K by omega, hc]
  · rw [if_neg e]
    by_cases h : 32 - K ≤ i
    · rw [if_pos h, if_pos (by omega)]
    · rw [if_neg h, if_neg (by omega)]

theorem dig_above {v k j : Nat} (h : v < 10 ^ k) (hj : k ≤ j) : dig v j = 0 := by
  have h2 : 10 ^ k ≤ 10 ^ j := pow_le10 hj
  rw [dig, Nat.div_eq_of_lt (by omega)]

theorem kv_div {v k u : Nat} (hu : u = v / 10 ^ k) : u / 10 = v / 10 ^ (k + 1) := by rw [hu, Nat.div_div_eq_div_mul, Nat.pow_succ]

theorem kv_horner (v j : Nat) : v / 10 ^ (j + 1) * 10 + dig v j = v / 10 ^ j := by
  rw [Nat.pow_succ, ← Nat.div_div_eq_div_mul, dig]
  omega

theorem Ydum.under44 : Ydum.prog.underlying 44 = some (.array (Ydum.prog.arrayLen 44) (Ydum.prog.elem 44)) := by kernel_rfl
theorem Ydum.len44 : Ydum.prog.arrayLen 44 = 32 := by kernel_rfl
theorem Ydum.elem44 : Ydum.prog.elem 44 = 5 := by kernel_rfl

theorem slice32 (wx : World) (g a K : Nat) (ha : a + K = 32) (hK : 0 < K) : (Instr.sliceAt 44 (.pointer (some ⟨g, 0, none⟩)) (some (.int .i64 (a : Int))) none none).run Ydum.prog wx = .ok (.slice (some ⟨g, a, none⟩) K K) wx := by
  obtain ⟨i, hi, hz0, hz1, hz2⟩ := info_parts Ydum.info5
  rw [run_sliceAt_array_l wx 44 ⟨g, 0, none⟩ Ydum.under44 .i64 (a : Int) (by omega) (by rw [Ydum.len44]; omega), Ydum.len44, Ydum.elem44]
  have e1 : (sizeOf 5).run Ydum.prog wx = .ok 1 wx := by simp [sizeOf, typeInfo, hi, hz1]
  rw [e1]
  simp only [Result.andThen, slicedAt, Int.toNat_natCast]
  rw [if_neg (by omega), Addr.add_lit, show 32 - a = K by omega]
  simp

theorem kv_dgs {x K i : Nat} (hi : i < K) : dgs K (fun i => 48 + dig x (K - 1 - i)) i = dig x i := by
  show 48 + dig x (K - 1 - (K - 1 - i)) - 48 = dig x i
  rw [show K - 1 - (K - 1 - i) = i by omega]
  omega

set_option maxRecDepth 100000 in
set_option maxHeartbeats 2000000 in
theorem law_KValue (w : World) (x0 : Nat) (h0 : x0 ≤ 18446744073709551615) (x1 : Nat) (h1 : x1 ≤ 255) :
    Calls Ydum.prog 9 #[.int .u64 (x0 : Int), .int .u8 (x1 : Int)] w fun e w' => e = .returned (.bool true) ∧ Below w.heap.size w w' := by
  obtain ⟨p, hp⟩ : ∃ p, x1 % 8 = p := ⟨_, rfl⟩
  have Ep : (x1 : Int) % 8 = (p : Int) := by omega
  have p7 : p ≤ 7 := by omega
  clear hp
  go_enter Ydum.func9, Ydum.ntmps9
  go_wp2
  go_loopw [6, 7, 8] (fun sa sr sk wr => ∃ k a u : Nat, k ≤ 20 ∧ a + k = 32 ∧ sk = .int .i64 (k : Int) ∧ sa = .int .i64 (a : Int) ∧ sr = .int .u64 (u : Int) ∧ u ≤ 18446744073709551615 ∧ Hid (u = x0 / 10 ^ k) ∧ Owns wr 44 w.heap.size 32 (by8 (kvF x0 k)) ∧ Below w.heap.size w wr) (fun _ _ sk _ => 20 - (intOf sk).toNat)
  case atStart =>
    refine ⟨0, 32, x0, by omega, by omega, rfl, rfl, rfl, h0, (show _ = _ by simp), ?_, (Below.refl _ _).alloc (Nat.le_refl _) _⟩
    exact (owns_zero32 w 44).congr fun i hi => by unfold by8 kvF; rw [if_neg (by omega)]
  case round =>
    obtain ⟨k, a, u, hk, hak, rfl, rfl, rfl, hu1, hu, hown, hnx⟩ := hrel
    by_cases hgo : k < 20 ∧ (k = 0 ∨ 0 < u)
    · obtain ⟨hk20, hor⟩ := hgo
      obtain ⟨a, rfl⟩ : ∃ a', a = a' + 1 := ⟨a - 1, by omega⟩
      have es : ((a + 1 : Nat) : Int) - 1 = (a : Int) := by omega
      have es2 : (a : Int) + 1 - 1 = (a : Int) := by omega
      have ha32 : (a : Int) < 32 := by omega
      have hd : 48 + u % 10 = 48 + dig x0 k := by rw [dig, ← hu.out]
      have c1 := hown.cell a (by omega)
      have z1 := hown.frozen a
      have hst := (hown.set8 a (48 + u % 10)).congr (G := by8 (kvF x0 (k + 1))) (fun i hi => by unfold by8; rw [kvF_step (by omega) hd i hi])
      have hbs := hnx.setCell (p := ⟨w.heap.size, a, none⟩) (Nat.le_refl _) (.int .u8 ((48 + u % 10 : Nat) : Int))
      rw [show ((48 + u % 10 : Nat) : Int) = 48 + (u : Int) % 10 by omega] at hst hbs
      have HST := mkHid hst
      have HBS := mkHid hbs
      have HU : Hid (u / 10 = x0 / 10 ^ (k + 1)) := kv_div hu.out
      have tk : decide ((k : Int) < 20) = true := by simp; omega
      clear hst hbs hown hnx hu hd
      rcases hor with hk0 | hu0
      · have t0 : ((k : Int) == 0) = true := beq_iff_eq.2 (by omega)
        go_wp2
        go_roundw
        case rel => exact ⟨k + 1, a, u / 10, by omega, by omega, by go_num, by go_num, by go_num, by omega, HU, HST.out, HBS.out⟩
        case measure => simp [intOf]; omega
      · by_cases hk0 : k = 0
        · have t0 : ((k : Int) == 0) = true := beq_iff_eq.2 (by omega)
          go_wp2
          go_roundw
          case rel => exact ⟨k + 1, a, u / 10, by omega, by omega, by go_num, by go_num, by go_num, by omega, HU, HST.out, HBS.out⟩
          case measure => simp [intOf]; omega
        · have t0 : ((k : Int) == 0) = false := beq_eq_false_iff_ne.2 (by omega)
          have t1 : decide ((0 : Int) < (u : Int)) = true := by simp; omega
          go_wp2
          go_roundw
          case rel => exact ⟨k + 1, a, u / 10, by omega, by omega, by go_num, by go_num, by go_num, by omega, HU, HST.out, HBS.out⟩
          case measure => simp [intOf]; omega
    · have hvk : Hid (x0 < 10 ^ k) := by
        show _ < _
        by_cases hk20 : k < 20
        · have u0 : u = 0 := by omega
          rw [u0] at hu
          have := hu.out.symm
          rw [Nat.div_eq_zero_iff] at this
          have := pow_pos10 k
          omega
        · have h2 : 10 ^ 20 ≤ 10 ^ k := pow_le10 (by omega)
          omega
      have hk1 : 1 ≤ k := by omega
      have stop : (decide ((k : Int) < 20) = false) ∨ (decide ((k : Int) < 20) = true ∧ ((k : Int) == 0) = false ∧ u = 0) := by
        by_cases hk20 : k < 20
        · exact .inr ⟨by simp; omega, beq_eq_false_iff_ne.2 (by omega), by omega⟩
        · exact .inl (by simp; omega)
      clear hgo hu
      rcases stop with s1 | ⟨s1, s2, rfl⟩
      all_goals
        go_wp2
        go_loopw [6, 9] (fun sa sj wr => ∃ j a : Nat, j ≤ p ∧ a + k + j = 32 ∧ sj = .int .i64 (j : Int) ∧ sa = .int .i64 (a : Int) ∧ Owns wr 44 w.heap.size 32 (by8 (kvF x0 (k + j))) ∧ Below w.heap.size w wr) (fun _ sj _ => p - (intOf sj).toNat)
        case atStart => exact ⟨0, a, by omega, by omega, rfl, rfl, hown, hnx⟩
        case round =>
          obtain ⟨j, a2, hj, hakj, rfl, rfl, hown, hnx⟩ := hrel
          by_cases hjp : j < p
          · obtain ⟨a2, rfl⟩ : ∃ a', a2 = a' + 1 := ⟨a2 - 1, by omega⟩
            have es : ((a2 + 1 : Nat) : Int) - 1 = (a2 : Int) := by omega
            have es2 : (a2 : Int) + 1 - 1 = (a2 : Int) := by omega
            have ha32 : (a2 : Int) < 32 := by omega
            have tj : (j : Int) < p := by omega
            have c1 := hown.cell a2 (by omega)
            have z1 := hown.frozen a2
            have hst := (hown.set8 a2 48).congr (G := by8 (kvF x0 (k + j + 1))) (fun i hi => by unfold by8; rw [kvF_step (by omega) (by rw [dig_above hvk.out (by omega)]) i hi])
            have hbs := hnx.setCell (p := ⟨w.heap.size, a2, none⟩) (Nat.le_refl _) (.int .u8 48)
            have HST := mkHid hst
            have HBS := mkHid hbs
            clear hst hbs hown hnx
            go_wp2
            go_roundw
            case rel => exact ⟨j + 1, a2, by omega, by omega, by go_num, by go_num, HST.out, HBS.out⟩
            case measure => simp [intOf]; omega
          · have tj : ¬ (j : Int) < p := by omega
            have ejp : j = p := by omega
            rw [ejp] at hown hakj
            clear ejp
            obtain ⟨K, hK⟩ : ∃ K, k + p = K := ⟨_, rfl⟩
            have K27 : K ≤ 27 := by omega
            have K1 : 1 ≤ K := by omega
            have haK : a2 + K = 32 := by omega
            rw [hK] at hown
            have hxK : Hid (x0 < 10 ^ K) := Nat.lt_of_lt_of_le hvk.out (pow_le10 (by omega))
            have hsl := fun wx => slice32 wx w.heap.size a2 K haK (by omega)
            have hS := strOf K (fun i => 48 + dig x0 (K - 1 - i)) (fun i _ => by have := dig_le x0 (K - 1 - i); omega)
            have hcv := run_convert_bytes_arg (P := Ydum.prog) wr 22 5 Ydum.underlying22 Ydum.underlying5 w.heap.size a2 K K ((List.range K).map fun i => ((48 + dig x0 (K - 1 - i) : Nat) : Int)) (by simp)
              (fun i hi => by
                rw [hown.cell (a2 + i) (by omega)]
                unfold by8 kvF
                rw [if_pos (by omega), show 31 - (a2 + i) = K - 1 - i by omega]
                simp [List.getD, hi]) 9 Ydum.underlying9
            obtain ⟨S, hSe⟩ : ∃ S, strOfNums ((List.range K).map fun i => ((48 + dig x0 (K - 1 - i) : Nat) : Int)) = S := ⟨_, rfl⟩
            rw [hSe] at hcv hS
            have SI := mkHid hS
            clear hSe hS hown hK hvk
            go_wp2_with fail
            refine (parse_any S K (fun i => 48 + dig x0 (K - 1 - i)) _ SI.out (by omega) (fun i => by have := dig_le x0 (K - 1 - i); omega)).mono ?_
            rintro e w3 hpo
            rcases hpo with ⟨hno, _⟩ | ⟨hyes, b, rfl, hbge, ho3, hb3⟩
            · exact absurd ⟨by omega, fun i hi => by show 48 ≤ 48 + dig x0 (K - 1 - i) ∧ 48 + dig x0 (K - 1 - i) ≤ 57; have := dig_le x0 (K - 1 - i); constructor <;> omega⟩ hno
            · have hcx := below_later hnx hb3 hnx.size
              have htl := tl_le (dgs K (fun i => 48 + dig x0 (K - 1 - i))) K
              have ecan : Hid (Canon (tl (dgs K (fun i => 48 + dig x0 (K - 1 - i))) K) (dig x0) ∧ val (dig x0) (tl (dgs K (fun i => 48 + dig x0 (K - 1 - i))) K) = x0) := by
                have e1 : tl (dgs K (fun i => 48 + dig x0 (K - 1 - i))) K = tl (dig x0) K := tl_congr K (fun i hi => kv_dgs hi)
                rw [e1]
                exact ⟨tl_canon (fun i _ => dig_le x0 i), by rw [tl_val, val_dig, Nat.mod_eq_of_lt hxK.out]⟩
              have ho4 : Owns w3 5 b (tl (dgs K (fun i => 48 + dig x0 (K - 1 - i))) K) (by8 (dig x0)) := ho3.congr fun i hi => by unfold by8; rw [kv_dgs (by omega)]
              clear hnx hb3 hyes hcv SI ho3
              generalize tl (dgs K (fun i => 48 + dig x0 (K - 1 - i))) K = t at *
              have hnd := ecan.out.1.nd
              rw [ecan.out.2] at hnd
              have t20 : t ≤ 20 := by
                apply Classical.byContradiction
                intro hlt
                have h2 := hnd.2 (by omega)
                have h3 : 10 ^ 20 ≤ 10 ^ (t - 1) := pow_le10 (by omega)
                omega
              have HND := mkHid hnd
              have OC : Hid (∀ i, i < t → w3.cell? ⟨b, i, none⟩ = some (.int .u8 (dig x0 i : Int)) ∧ b < w3.heap.size) := fun i hi => ⟨ho4.cell i hi, ho4.lt⟩
              have tcase : (t = 0) ∨ (∃ r, t = r + 1 ∧ ((dig x0 r : Int) == 0) = false ∧ w3.cell? ⟨b, r, none⟩ = some (.int .u8 (dig x0 r : Int))) := by
                rcases Nat.eq_zero_or_pos t with e | e
                · exact .inl e
                · have h7 := ecan.out.1.2 e
                  exact .inr ⟨t - 1, by omega, beq_eq_false_iff_ne.2 (by omega), (OC.out (t - 1) (by omega)).1⟩
              have q20 : decide ((20 : Int) < (t : Int)) = false := by simp; omega
              clear hnd ecan ho4
              rcases tcase with rfl | ⟨r, rfl, qr, cr⟩
              · have hx0 : x0 = 0 := by have := HND.out.1; simp at this; exact this
                subst hx0
                clear OC HND
                go_wp2
                go_loop [12, 13] (fun sa i => sa = .int .u64 0 ∧ i = .int .i64 (-1)) (fun _ _ => 0)
                case atStart => exact ⟨rfl, rfl⟩
                case round =>
                  obtain ⟨rfl, rfl⟩ := hrel
                  go_wp2
                  go_ret
                  exact ⟨rfl, hcx⟩
              · have qr20 : decide ((20 : Int) < (r : Int) + 1) = false := by simp; omega
                have er : ((r + 1 : Nat) : Int) - 1 = (r : Int) := by omega
                have er2 : (r : Int) + 1 - 1 = (r : Int) := by omega
                go_wp2
                go_loop [12, 13] (fun sa i => ∃ k u : Nat, k ≤ r + 1 ∧ i = .int .i64 ((k : Int) - 1) ∧ sa = .int .u64 (u : Int) ∧ Hid (u = x0 / 10 ^ k)) (fun _ i => (intOf i + 1).toNat)
                case atStart => exact ⟨r + 1, 0, by omega, by go_num, rfl, (show _ = _ by rw [Nat.div_eq_of_lt HND.out.1])⟩
                case round =>
                  obtain ⟨m, u2, hm, rfl, rfl, hu2⟩ := hrel
                  cases m with
                  | zero =>
                    have hx : u2 = x0 := by rw [hu2.out]; simp
                    subst hx
                    clear OC HND hu2 cr qr
                    go_wp2
                    go_ret
                    exact ⟨rfl, hcx⟩
                  | succ i =>
                    have ga := (OC.out i (by omega)).1
                    have d9 := dig_le x0 i
                    have hst := kv_horner x0 i
                    have hle : u2 * 10 + dig x0 i ≤ 18446744073709551615 := by
                      rw [hu2.out, hst]
                      exact Nat.le_trans (Nat.div_le_self _ _) h0
                    have HS : Hid (u2 * 10 + dig x0 i = x0 / 10 ^ i) := by show _ = _; rw [hu2.out]; exact hst
                    have ji : (i : Int) < ((r + 1 : Nat) : Int) := by omega
                    rw [show ((i + 1 : Nat) : Int) - 1 = (i : Int) by omega]
                    have q9 : ¬ (9 : Int) < (dig x0 i : Int) := by omega
                    clear OC HND hu2 cr qr hst
                    go_wp2
                    go_round
                    case rel => exact ⟨i, u2 * 10 + dig x0 i, by omega, rfl, by go_num, HS⟩
                    case measure => simp [intOf]

end Go.Proofs.Ymbrdu
