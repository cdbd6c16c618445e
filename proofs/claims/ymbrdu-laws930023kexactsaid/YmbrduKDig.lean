import Derived.Test.YmbrduStr
namespace Go.Proofs.Ymbrdu
open Go.RowKit

theorem kd_cells {k u : Nat} {h : Nat → Nat} (hu : h k = u) : (List.range k).map (by8 h) ++ [.int .u8 (u : Int)] = (List.range (k + 1)).map (by8 h) := by
  rw [List.range_succ, List.map_append]
  simp [by8, hu]

set_option maxHeartbeats 400000 in
theorem kdigits_any (s : ByteArray) (n : Nat) (g : Nat → Nat) (w : World) (hs : StrIs s n g) (hn : n ≤ 1073741824) (g8 : ∀ i, g i ≤ 255) :
    Calls Ydum.prog 22 #[.string s] w fun e w' => ∃ s', e = .returned (.string s') ∧ StrIs s' n (fun i => 48 + g i % 10) ∧ Below w.heap.size w w' := by
  obtain ⟨hsz, hch⟩ := hs
  have CH := mkHid hch
  have G8 := mkHid g8
  clear hch g8
  obtain ⟨h, hh⟩ : ∃ h : Nat → Nat, ∀ i, 48 + g i % 10 = h i := ⟨fun i => 48 + g i % 10, fun _ => rfl⟩
  have HH := mkHid hh
  clear hh
  obtain ⟨i0, hi, hz0, hz1, hz2⟩ := info_parts Ydum.info5
  go_enter Ydum.func22, Ydum.ntmps22
  go_wp2_with (at_make; refine wpList_make_own _ rfl _ _ 22 rfl w.heap.size 5 i0 (.int .u8 0) 1 Ydum.underlying22 hi hz0 hz1 _ _ _ n rfl rfl (by omega) (by rw [hz2]; omega) (by unfold maxLen; omega) (Nat.le_refl _) ?_)
  intro w1 ho1 hg1
  have hb1 : Below w.heap.size w w1 := (Below.refl _ _).grown hg1 (Nat.le_refl _) (fun k h => by cases h)
  clear hg1
  go_wp2
  go_loopw [3, 4] (fun sb i wr => ∃ k : Nat, k ≤ n ∧ i = .int .i64 (k : Int) ∧ sb = .slice (some ⟨w.heap.size, 0, none⟩) k n ∧ wr.ownsRow w.heap.size 5 1 (.slice (some ⟨w.heap.size, 0, none⟩) k n) k ((List.range k).map (by8 h)) ∧ Below w.heap.size w wr) (fun _ i _ => n - (intOf i).toNat)
  case atStart => exact ⟨0, by omega, rfl, rfl, ho1, hb1⟩
  case round =>
    obtain ⟨k, hk, rfl, rfl, hown, hnx⟩ := hrel
    clear ho1 hb1
    by_cases hlt : k < n
    · have hix : k < s.size := by omega
      have hv : (s[k]'hix).toNat = g k := CH.out k hix
      have hj : (k : Int) < n := by omega
      have g8 := G8.out k
      obtain ⟨u, hu⟩ : ∃ u, h k = u := ⟨_, rfl⟩
      have Eu : (48 : Int) + (g k : Int) % 10 = (u : Int) := by rw [← hu, ← HH.out k]; simp
      have HU := mkHid hu
      clear hu
      go_wp2_with (at_builtin; refine wpList_append_fits _ rfl (.tmp 14) (.tmp 20) 22 rfl w.heap.size 5 i0 1 Ydum.underlying22 hi hz1 w.heap.size k n _ rfl (hown.alloc _) ⟨wr.heap.size, 0, none⟩ 1 1 [.int .u8 (u : Int)] rfl rfl (by intro t q ht; match t, ht with | 0, ht => simp at ht; subst ht; simp [Addr.add]) (by intro q hq; simp at hq; subst hq; rfl) (by omega) ?_)
      intro w2 hown2 hgr2
      have hb2 : Below w.heap.size w w2 := (hnx.alloc hnx.size _).grown hgr2 (by have := hnx.size; simp; omega) (fun q hq => by cases hq; exact Nat.le_refl _)
      rw [kd_cells HU.out] at hown2
      clear hown hnx hgr2 HU CH G8
      go_wp2
      go_roundw
      case rel => exact ⟨k + 1, by omega, by go_num, rfl, hown2, hb2⟩
      case measure => simp [intOf]; omega
    · have tk : ¬ (k : Int) < n := by omega
      have ek : k = n := by omega
      subst ek
      have ho : Owns wr 5 w.heap.size k (by8 h) := owns_of_row hown (fun i hi => by simp [hi])
      have hS := strOf k h (fun i _ => by rw [← HH.out i]; omega)
      have hcv := run_convert_bytes_arg (P := Ydum.prog) wr 22 5 Ydum.underlying22 Ydum.underlying5 w.heap.size 0 k k ((List.range k).map fun i => ((h i : Nat) : Int)) (by simp)
        (fun i hi => by
          rw [Nat.zero_add, ho.cell i hi]
          simp [by8, hi]) 9 Ydum.underlying9
      obtain ⟨S, hSe⟩ : ∃ S, strOfNums ((List.range k).map fun i => ((h i : Nat) : Int)) = S := ⟨_, rfl⟩
      rw [hSe] at hcv hS
      have fin : Hid (StrIs S k (fun i => 48 + g i % 10)) := ⟨hS.1, fun i hi => by rw [hS.2 i hi, ← HH.out i]⟩
      clear hSe hown ho hS CH G8 HH
      go_wp2
      go_ret
      exact ⟨S, rfl, fin.out, hnx⟩

end Go.Proofs.Ymbrdu
