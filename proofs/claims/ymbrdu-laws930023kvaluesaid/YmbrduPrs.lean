import Derived.Test.YmbrduStr
import Derived.Test.YmbrduTrm
import Derived.Test.YmbrduIMake
namespace Go.Proofs.Ymbrdu
open Go.RowKit

def GoodS (n : Nat) (g : Nat → Nat) : Prop := 0 < n ∧ ∀ i, i < n → 48 ≤ g i ∧ g i ≤ 57
def dgs (n : Nat) (g : Nat → Nat) : Nat → Nat := fun i => g (n - 1 - i) - 48

def ParseOut (w w' : World) (e : Ending) (n : Nat) (g : Nat → Nat) : Prop :=
  (¬ GoodS n g ∧ e = .returned (.tuple #[.slice none 0 0, .bool false]) ∧ Below w.heap.size w w') ∨
  (GoodS n g ∧ ∃ b, e = .returned (.tuple #[.slice (some ⟨b, 0, none⟩) (tl (dgs n g) n) (tl (dgs n g) n), .bool true]) ∧ w.heap.size ≤ b ∧ Owns w' 5 b (tl (dgs n g) n) (by8 (dgs n g)) ∧ Below w.heap.size w w')

theorem ParseOut.no {w w' : World} {e : Ending} {n : Nat} {g : Nat → Nat} (h : ¬ GoodS n g) (he : e = .returned (.tuple #[.slice none 0 0, .bool false])) (hb : Below w.heap.size w w') : ParseOut w w' e n g := .inl ⟨h, he, hb⟩
theorem ParseOut.yes {w w' : World} {e : Ending} {n : Nat} {g : Nat → Nat} (h : GoodS n g) (b : Nat) (he : e = .returned (.tuple #[.slice (some ⟨b, 0, none⟩) (tl (dgs n g) n) (tl (dgs n g) n), .bool true])) (hg : w.heap.size ≤ b)
    (ho : Owns w' 5 b (tl (dgs n g) n) (by8 (dgs n g))) (hb : Below w.heap.size w w') : ParseOut w w' e n g := .inr ⟨h, b, he, hg, ho, hb⟩

set_option maxHeartbeats 400000 in
theorem parse_any (s : ByteArray) (n : Nat) (g : Nat → Nat) (w : World) (hs : StrIs s n g) (hn : n ≤ 1073741824) (g8 : ∀ i, g i ≤ 255) :
    Calls Ydum.prog 23 #[.string s] w fun e w' => ParseOut w w' e n g := by
  obtain ⟨hsz, hch⟩ := hs
  have CH := mkHid hch
  have G8 := mkHid g8
  clear hch g8
  rcases Nat.eq_zero_or_pos n with rfl | hpos
  · go_enter Ydum.func23, Ydum.ntmps23
    go_wp2
    go_ret2
    exact ParseOut.no (fun h => by have := h.1; omega) rfl (Below.refl _ _)
  have q0 : ((n : Int) == 0) = false := beq_eq_false_iff_ne.2 (by omega)
  go_enter Ydum.func23, Ydum.ntmps23
  go_wp2_with (at_make; refine wpList_mk _ rfl _ _ 24 rfl 5 (.int .u8 0) 1 Ydum.underlying24 Ydum.info5 rfl _ _ _ _ n rfl rfl (by omega) (by omega) (by omega) (by unfold maxLen; omega) ?_)
  intro w1 ho1 hb1
  go_wp2
  go_loopw [6] (fun i wr => ∃ k : Nat, k ≤ n ∧ i = .int .i64 (k : Int) ∧ Hid (∀ j, j < k → 48 ≤ g (n - 1 - j) ∧ g (n - 1 - j) ≤ 57) ∧ Owns wr 5 w.heap.size n (by8 (upTo k (dgs n g))) ∧ Below w.heap.size w wr) (fun i _ => n - (intOf i).toNat)
  case atStart =>
    refine ⟨0, by omega, rfl, (show ∀ _, _ by intro j hj; omega), ho1.congr fun i hi => ?_, hb1⟩
    simp [by8, upTo]
  case round =>
    obtain ⟨k, hk, rfl, hgood, hown, hnx⟩ := hrel
    clear ho1 hb1
    by_cases hlt : k < n
    · have hix : n - 1 - k < s.size := by omega
      have hv : (s[n - 1 - k]'hix).toNat = g (n - 1 - k) := CH.out (n - 1 - k) hix
      have hj : (k : Int) < n := by omega
      obtain ⟨c, hc⟩ : ∃ c, g (n - 1 - k) = c := ⟨_, rfl⟩
      have c8 : c ≤ 255 := by rw [← hc]; exact G8.out _
      have HCC := mkHid hc
      rw [hc] at hv
      clear hc
      by_cases t1 : c < 48
      · have q1 : decide ((c : Int) < 48) = true := by simp; omega
        have hno : Hid (¬ GoodS n g) := fun h => by have := (h.2 (n - 1 - k) (by omega)).1; rw [HCC.out] at this; omega
        clear hown HCC hgood CH G8
        go_wp2
        go_ret2
        exact ParseOut.no hno.out rfl hnx
      · have q1 : decide ((c : Int) < 48) = false := by simp; omega
        by_cases t2 : 57 < c
        · have q2 : decide ((57 : Int) < (c : Int)) = true := by simp; omega
          have hno : Hid (¬ GoodS n g) := fun h => by have := (h.2 (n - 1 - k) (by omega)).2; rw [HCC.out] at this; omega
          clear hown HCC hgood CH G8
          go_wp2
          go_ret2
          exact ParseOut.no hno.out rfl hnx
        · have q2 : decide ((57 : Int) < (c : Int)) = false := by simp; omega
          have hgood' : Hid (∀ j, j < k + 1 → 48 ≤ g (n - 1 - j) ∧ g (n - 1 - j) ≤ 57) := fun j hj => by
            by_cases e : j = k
            · rw [e, HCC.out]; omega
            · exact hgood.out j (by omega)
          have c1 := hown.cell k hlt
          have z1 := hown.frozen k
          have hst := hown.set8 k (c - 48)
          rw [upTo_step k (c - 48) (dgs n g) (by unfold dgs; rw [HCC.out])] at hst
          have hbs := hnx.setCell (p := ⟨w.heap.size, k, none⟩) (Nat.le_refl _) (.int .u8 ((c - 48 : Nat) : Int))
          have e1 : ((c - 48 : Nat) : Int) = (c : Int) - 48 := by omega
          rw [e1] at hst hbs
          have HST := mkHid hst
          have HBS := mkHid hbs
          have c48 : 48 ≤ c := by omega
          clear hst hbs hown hnx HCC hgood CH G8 e1
          go_wp2
          go_roundw
          case rel => exact ⟨k + 1, by omega, by go_num, hgood', HST.out, HBS.out⟩
          case measure => simp [intOf]; omega
    · have tk : ¬ (k : Int) < n := by omega
      have ek : k = n := by omega
      rw [ek] at hgood hown
      have hyes : Hid (GoodS n g) := ⟨hpos, fun i hi => by have := hgood.out (n - 1 - i) (by omega); rw [show n - 1 - (n - 1 - i) = i by omega] at this; exact this⟩
      have hown' : Owns wr 5 w.heap.size n (by8 (dgs n g)) := hown.congr fun i hi => by unfold by8; rw [upTo_all _ hi]
      clear hown hgood CH G8 ek
      go_wp2_with fail
      refine (trim_any _ _ _ (dgs n g) _ (by omega) (Nat.le_refl _) (by omega) hown'.reads).mono ?_
      rintro e w3 ⟨b, rfl, hbge, ho3, hb3⟩
      have hbx := below_later hnx hb3 hnx.size
      have hs3 := hnx.size
      clear hown' hnx hb3
      go_wp2
      go_ret2
      exact ParseOut.yes hyes.out b rfl (by omega) ho3 hbx

end Go.Proofs.Ymbrdu
