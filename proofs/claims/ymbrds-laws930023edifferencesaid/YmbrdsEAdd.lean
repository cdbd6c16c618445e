import Derived.Test.YmbrdsFu
import Derived.Test.YmbrdsEDig
import Derived.Test.YmbrdsPlainS
namespace Go.Proofs.Ymbrds
open Go.RowKit

theorem eadd_le {A B : Nat → Nat} (hA : ∀ i, A i ≤ 9) (hB : ∀ i, B i ≤ 9) : ∀ k, cy A B k ≤ 1
  | 0 => by simp [cy]
  | k + 1 => by
    have := eadd_le hA hB k
    have := hA k
    have := hB k
    rw [cy]
    omega

theorem canon_of_val {n : Nat} {f : Nat → Nat} (h9 : ∀ i, i < n → f i ≤ 9) (hv : 0 < n → 10 ^ (n - 1) ≤ val f n) : Canon n f := by
  refine ⟨h9, fun hn h0 => ?_⟩
  have h1 := hv hn
  obtain ⟨m, rfl⟩ : ∃ m, n = m + 1 := ⟨n - 1, by omega⟩
  simp only [Nat.add_sub_cancel] at h0 h1
  rw [val, h0] at h1
  have := val_lt m (fun i hi => h9 i (by omega))
  omega

theorem eadd_small {n0 n1 n : Nat} {f g : Nat → Nat} (cf : Canon n0 f) (cg : Canon n1 g) (hn : n = max n0 n1) (h0 : cy (pad n0 f) (pad n1 g) n = 0) :
    Canon n (addK (pad n0 f) (pad n1 g) n) ∧ val (addK (pad n0 f) (pad n1 g) n) n = val f n0 + val g n1 := by
  have e : val (addK (pad n0 f) (pad n1 g) n) n = val f n0 + val g n1 := by
    have h := addF_val (pad n0 f) (pad n1 g) n
    rw [h0, val_padded f (show n0 ≤ n by omega), val_padded g (show n1 ≤ n by omega)] at h
    omega
  refine ⟨canon_of_val (fun i hi => by unfold addK; rw [if_pos hi]; omega) (fun hp => ?_), e⟩
  rw [e]
  by_cases hx : n = n0
  · have := cf.nd.2 (by omega)
    rw [← hx] at this
    have e2 : val f n = val f n0 := by rw [hx]
    omega
  · have hy : n = n1 := by omega
    have := cg.nd.2 (by omega)
    rw [← hy] at this
    have e2 : val g n = val g n1 := by rw [hy]
    omega

theorem eadd_large {n0 n1 n : Nat} {f g : Nat → Nat} (hn : n = max n0 n1) (h1 : cy (pad n0 f) (pad n1 g) n = 1) :
    Canon (n + 1) (addF (pad n0 f) (pad n1 g) n) ∧ val (addF (pad n0 f) (pad n1 g) n) (n + 1) = val f n0 + val g n1 := by
  refine ⟨⟨fun i hi => ?_, fun _ => ?_⟩, ?_⟩
  · unfold addF
    split
    · omega
    · split <;> omega
  · simp [addF, h1]
  · rw [addF_total, val_padded f (show n0 ≤ n by omega), val_padded g (show n1 ≤ n by omega)]

def OutIs (w w' : World) (e : Ending) (N V : Nat) : Prop :=
  ∃ b t c h, e = .returned (.slice (some ⟨b, 0, none⟩) t c) ∧ w.heap.size ≤ b ∧ t ≤ N ∧ Canon t h ∧ val h t = V ∧ Owns w' 5 b t (by8 h) ∧ Below w.heap.size w w'

theorem OutIs.make {w w' : World} {e : Ending} {N V : Nat} (b t c : Nat) (h : Nat → Nat) (h1 : e = .returned (.slice (some ⟨b, 0, none⟩) t c)) (h2 : w.heap.size ≤ b) (h3 : t ≤ N) (h4 : Canon t h) (h5 : val h t = V) (h6 : Owns w' 5 b t (by8 h)) (h7 : Below w.heap.size w w') : OutIs w w' e N V :=
  ⟨b, t, c, h, h1, h2, h3, h4, h5, h6, h7⟩

set_option maxHeartbeats 1000000 in
theorem eadd_any (a0 a1 : Option Addr) (n0 c0 n1 c1 : Nat) (f g : Nat → Nat) (w : World) (hn0 : n0 ≤ 1073741824) (hn1 : n1 ≤ 1073741824)
    (hf : Reads w a0 n0 f) (hg : Reads w a1 n1 g) (f8 : ∀ j, f j ≤ 255) (g8 : ∀ j, g j ≤ 255) (cf : Canon n0 f) (cg : Canon n1 g) :
    Calls Ydsm.prog 29 #[.slice a0 n0 c0, .slice a1 n1 c1] w fun e w' => OutIs w w' e (n0 + n1 + 1) (val f n0 + val g n1) := by
  obtain ⟨n, hn⟩ : ∃ n, n = max n0 n1 := ⟨_, rfl⟩
  have hnb : n ≤ 1073741824 ∧ n ≤ n0 + n1 := by omega
  obtain ⟨hnb, hnb2⟩ := hnb
  have small := mkHid (eadd_small cf cg hn)
  have large := mkHid (eadd_large (f := f) (g := g) hn)
  have CY := mkHid (eadd_le (pad_digits cf.1) (pad_digits cg.1))
  have P9 := mkHid (pad_digits cf.1)
  have Q9 := mkHid (pad_digits cg.1)
  have ncase : ((n1 : Int) = (n : Int) ∧ decide ((n0 : Int) < (n : Int)) = true ∧ decide (n0 < n) = true) ∨ ((n0 : Int) = (n : Int) ∧ decide ((n : Int) < (n1 : Int)) = false ∧ decide (n < n1) = false) := by
    by_cases h : n0 < n1
    · exact .inl ⟨by omega, by simp; omega, by simp; omega⟩
    · exact .inr ⟨by omega, by simp; omega, by simp; omega⟩
  have HF := mkHid hf
  have HG := mkHid hg
  have F8 := mkHid f8
  have G8 := mkHid g8
  clear hf hg f8 g8 cf cg hn
  rcases ncase with ⟨En, t01, t02⟩ | ⟨En, t01, t02⟩
  all_goals
    go_enter Ydsm.func29, Ydsm.ntmps29
    go_wp2_with (at_make; refine wpList_mk _ rfl _ _ 23 rfl 5 (.int .u8 0) 1 Ydsm.underlying23 Ydsm.info5 rfl _ _ _ _ (n + 1) rfl rfl (by omega) (by omega) (by omega) (by unfold maxLen; omega) ?_)
    intro w1 ho1 hb1
    go_wp2
    go_loopw [7, 8] (fun sc i wr => ∃ k c : Nat, k ≤ n ∧ i = .int .i64 (k : Int) ∧ sc = .int .i64 (c : Int) ∧ c ≤ 1 ∧ Hid (cy (pad n0 f) (pad n1 g) k = c) ∧ Owns wr 5 w.heap.size (n + 1) (by8 (addK (pad n0 f) (pad n1 g) k)) ∧ Below w.heap.size w wr) (fun _ i _ => n - (intOf i).toNat)
    case atStart =>
      refine ⟨0, 0, by omega, rfl, rfl, by omega, (show _ = _ by rfl), ho1.congr fun i hi => ?_, hb1⟩
      simp [by8, addK]
    case round =>
      obtain ⟨k, c, hk, rfl, rfl, hc1, hc, hown, hnx⟩ := hrel
      clear ho1 hb1
      by_cases hlt : k < n
      · obtain ⟨p, hp⟩ : ∃ p, pad n0 f k = p := ⟨_, rfl⟩
        obtain ⟨q, hq⟩ : ∃ q, pad n1 g k = q := ⟨_, rfl⟩
        have p9 : p ≤ 9 := by rw [← hp]; exact P9.out k
        have q9 : q ≤ 9 := by rw [← hq]; exact Q9.out k
        have hst := hown.set8 k ((c + p + q) % 10)
        rw [addK_step (pad n0 f) (pad n1 g) k (c + p + q) (by rw [hc.out, hp, hq])] at hst
        have hbs := hnx.setCell (p := ⟨w.heap.size, k, none⟩) (Nat.le_refl _) (.int .u8 (((c + p + q) % 10 : Nat) : Int))
        have HC : Hid (cy (pad n0 f) (pad n1 g) (k + 1) = (c + p + q) / 10) := by show _ = _; rw [cy, hc.out, hp, hq]
        have c1' := hown.cell k (by omega)
        have z1 := hown.frozen k
        have j1 : (k : Int) < ((n + 1 : Nat) : Int) := by omega
        have t0 : (k : Int) < n := by omega
        have HP := mkHid hp
        have HQ := mkHid hq
        clear hp hq hc
        go_wp2_with fail
        refine (edig_any _ _ _ k f _ (HF.out.later hnx) (F8.out k)).mono ?_
        rw [HP.out]
        rintro e w2 ⟨rfl, rfl⟩
        go_wp2_with fail
        refine (edig_any _ _ _ k g _ (HG.out.later hnx) (G8.out k)).mono ?_
        rw [HQ.out]
        rintro e w2 ⟨rfl, rfl⟩
        have Es : (p : Int) + (q : Int) + (c : Int) = ((c + p + q : Nat) : Int) := by omega
        obtain ⟨s, hs⟩ : ∃ s, c + p + q = s := ⟨_, rfl⟩
        have s19 : s ≤ 19 := by omega
        rw [hs] at Es hst hbs HC
        have HST := mkHid hst
        have HBS := mkHid hbs
        clear hs hst hbs hown hnx
        go_wp2
        go_roundw
        case rel => exact ⟨k + 1, s / 10, by omega, by go_num, by go_num, by omega, HC, HST.out, HBS.out⟩
        case measure => simp [intOf]; omega
      · have ek : k = n := by omega
        have tk : ¬ (k : Int) < n := by omega
        rw [ek] at hc hown
        clear ek hk
        have ccase : (c = 0) ∨ (c = 1) := by omega
        rcases ccase with rfl | rfl
        · obtain ⟨hcan, hval⟩ := small.out hc.out
          have HCAN := mkHid hcan
          have HVAL := mkHid hval
          have hown' := hown.less (show n ≤ n + 1 by omega)
          clear small large CY hcan hval hown
          go_wp2
          go_ret
          exact OutIs.make w.heap.size n (n + 1) _ rfl (Nat.le_refl _) (by omega) HCAN.out HVAL.out hown' hnx
        · obtain ⟨hcan, hval⟩ := large.out hc.out
          have HCAN := mkHid hcan
          have HVAL := mkHid hval
          have hst := hown.set8 n 1
          rw [← hc.out, addF_last, hc.out] at hst
          have hbs := hnx.setCell (p := ⟨w.heap.size, n, none⟩) (Nat.le_refl _) (.int .u8 1)
          have HST := mkHid hst
          have HBS := mkHid hbs
          have c1' := hown.cell n (by omega)
          have z1 := hown.frozen n
          have j1 : (n : Int) < ((n + 1 : Nat) : Int) := by omega
          clear small large CY hcan hval hown hst hbs hnx
          go_wp2
          go_ret
          exact OutIs.make w.heap.size (n + 1) (n + 1) _ rfl (Nat.le_refl _) (by omega) HCAN.out HVAL.out HST.out HBS.out

end Go.Proofs.Ymbrds
