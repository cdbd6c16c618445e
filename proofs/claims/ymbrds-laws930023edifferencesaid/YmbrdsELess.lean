import Derived.Test.YmbrdsEDig
import Derived.Test.YmbrdsPlainS
namespace Go.Proofs.Ymbrds
open Go.RowKit

theorem eless_fin {n m : Nat} {f g : Nat → Nat} (hf : Canon n f) (hg : Canon m g) (N : Nat) (hN : N = max n m) : decide (cmpDown (pad n f) (pad m g) N = -1) = decide (val f n < val g m) := by
  rw [cmpDown_sgn _ (fun i _ => pad_digits hf.1 i) (fun i _ => pad_digits hg.1 i), val_padded f (show n ≤ N by omega), val_padded g (show m ≤ N by omega)]
  unfold sgn
  by_cases h1 : val f n < val g m
  · simp [h1]
  · rw [if_neg h1]
    by_cases h2 : val g m < val f n <;> simp [h1, h2]

theorem eless_step {f g : Nat → Nat} {k p q : Nat} (hp : f k = p) (hq : g k = q) : decide (cmpDown f g (k + 1) = -1) = if p = q then decide (cmpDown f g k = -1) else decide (p < q) := by
  rw [cmpDown, hp, hq]
  by_cases h1 : p < q
  · rw [if_pos h1, if_neg (by omega)]; simp [h1]
  · rw [if_neg h1]
    by_cases h2 : q < p
    · rw [if_pos h2, if_neg (by omega)]; simp [h1]
    · rw [if_neg h2, if_pos (by omega)]

set_option maxHeartbeats 1000000 in
theorem eless_any (a0 a1 : Option Addr) (n0 c0 n1 c1 : Nat) (f g : Nat → Nat) (w : World) (hn0 : n0 ≤ 1073741824) (hn1 : n1 ≤ 1073741824)
    (hf : Reads w a0 n0 f) (hg : Reads w a1 n1 g) (f8 : ∀ j, f j ≤ 255) (g8 : ∀ j, g j ≤ 255) (cf : Canon n0 f) (cg : Canon n1 g) (L : Bool) (hL : decide (val f n0 < val g n1) = L) :
    Calls Ydsm.prog 28 #[.slice a0 n0 c0, .slice a1 n1 c1] w fun e w' => e = .returned (.bool L) ∧ Below w.heap.size w w' := by
  obtain ⟨n, hn⟩ : ∃ n, n = max n0 n1 := ⟨_, rfl⟩
  have hnb : n ≤ 1073741824 := by omega
  have FIN := mkHid ((eless_fin cf cg n hn).trans hL)
  have P9 := mkHid (pad_digits cf.1)
  have Q9 := mkHid (pad_digits cg.1)
  have ncase : ((n1 : Int) = (n : Int) ∧ decide ((n0 : Int) < (n : Int)) = true ∧ decide (n0 < n) = true) ∨ ((n0 : Int) = (n : Int) ∧ decide ((n : Int) < (n1 : Int)) = false ∧ decide (n < n1) = false) := by
    by_cases h : n0 < n1
    · exact .inl ⟨by omega, by simp; omega, by simp; omega⟩
    · exact .inr ⟨by omega, by simp; omega, by simp; omega⟩
  have HF := mkHid hf
  have HG := mkHid hg
  have F8 := mkHid f8
  have G8 := mkHid g8
  clear hf hg f8 g8 cf cg hn hL
  rcases ncase with ⟨En, t01, t02⟩ | ⟨En, t01, t02⟩
  all_goals
    go_enter Ydsm.func28, Ydsm.ntmps28
    go_wp2
    go_loopw [6, 7] (fun sl i wr => ∃ (k : Nat) (l : Bool), k ≤ n ∧ i = .int .i64 (k : Int) ∧ sl = .bool l ∧ Hid (decide (cmpDown (pad n0 f) (pad n1 g) k = -1) = l) ∧ Below w.heap.size w wr) (fun _ i _ => n - (intOf i).toNat)
    case atStart => exact ⟨0, false, by omega, rfl, rfl, (show _ = _ by rfl), Below.refl _ _⟩
    case round =>
      obtain ⟨k, l, hk, rfl, rfl, hl, hnx⟩ := hrel
      by_cases hlt : k < n
      · obtain ⟨p, hp⟩ : ∃ p, pad n0 f k = p := ⟨_, rfl⟩
        obtain ⟨q, hq⟩ : ∃ q, pad n1 g k = q := ⟨_, rfl⟩
        have p9 : p ≤ 9 := by rw [← hp]; exact P9.out k
        have q9 : q ≤ 9 := by rw [← hq]; exact Q9.out k
        have ST := mkHid (eless_step hp hq)
        rw [hl.out] at ST
        have t0 : (k : Int) < n := by omega
        have HP := mkHid hp
        have HQ := mkHid hq
        clear hp hq hl
        by_cases e0 : p = q
        · have q1 : ((p : Int) != (q : Int)) = false := by simp [e0]
          rw [if_pos e0] at ST
          go_wp2_with fail
          refine (edig_any _ _ _ k f _ (HF.out.later hnx) (F8.out k)).mono ?_
          rw [HP.out]
          rintro e w2 ⟨rfl, rfl⟩
          go_wp2_with fail
          refine (edig_any _ _ _ k g _ (HG.out.later hnx) (G8.out k)).mono ?_
          rw [HQ.out]
          rintro e w2 ⟨rfl, rfl⟩
          clear e0
          go_wp2
          go_roundw
          case rel => exact ⟨k + 1, l, by omega, by go_num, rfl, ST, hnx⟩
          case measure => simp [intOf]; omega
        · have q1 : ((p : Int) != (q : Int)) = true := by simp; omega
          rw [if_neg e0] at ST
          go_wp2_with fail
          refine (edig_any _ _ _ k f _ (HF.out.later hnx) (F8.out k)).mono ?_
          rw [HP.out]
          rintro e w2 ⟨rfl, rfl⟩
          go_wp2_with fail
          refine (edig_any _ _ _ k g _ (HG.out.later hnx) (G8.out k)).mono ?_
          rw [HQ.out]
          rintro e w2 ⟨rfl, rfl⟩
          go_wp2
          go_roundw
          case rel => exact ⟨k + 1, decide (p < q), by omega, by go_num, by simp, ST, hnx⟩
          case measure => simp [intOf]; omega
      · have ek : k = n := by omega
        have tk : ¬ (k : Int) < n := by omega
        rw [ek, FIN.out] at hl
        have el : L = l := hl.out
        subst el
        clear ek hk hl FIN
        go_wp2
        go_ret
        exact ⟨rfl, hnx⟩

end Go.Proofs.Ymbrds
