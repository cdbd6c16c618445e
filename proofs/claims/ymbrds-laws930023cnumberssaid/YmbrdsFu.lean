import Derived.Test.YmbrdsProg
import Derived.Test.YmbrdsBase
import Derived.Test.YmbrdsPlain
namespace Go.Proofs.Ymbrds
open Go.RowKit

theorem Ydsm.info5 : (Ydsm.prog.info? 5).map (fun i => (i.zero, i.size, i.bytes)) = some (some (.int .u8 0), 1, 1) := by kernel_rfl
theorem Ydsm.info5s : (Ydsm.prog.info? 5).map (·.size) = some 1 := by kernel_rfl

theorem fu_step {v k u : Nat} (hu : u = v / 10 ^ k) : u / 10 = v / 10 ^ (k + 1) := by
  rw [hu, Nat.div_div_eq_div_mul, Nat.pow_succ]

theorem fu_bound {v k u : Nat} (hv : v ≤ 18446744073709551615) (hu : u = v / 10 ^ k) (hpos : 0 < u) : k < 20 := by
  apply Classical.byContradiction
  intro hk
  have h1 : 10 ^ 20 ≤ 10 ^ k := pow_le10 (by omega)
  have h2 : v / 10 ^ k = 0 := Nat.div_eq_of_lt (by omega)
  omega

theorem fu_more {v k u : Nat} (hu : u = v / 10 ^ k) (hpos : 0 < u) (h : ∀ j, j < k → 0 < v / 10 ^ j) : ∀ j, j < k + 1 → 0 < v / 10 ^ j := by
  intro j hj
  by_cases e : j = k
  · subst e; omega
  · exact h j (by omega)

theorem fu_cells {v k u : Nat} (hu : u = v / 10 ^ k) : (List.range k).map (by8 (dig v)) ++ [.int .u8 ((u : Int) % 10)] = (List.range (k + 1)).map (by8 (dig v)) := by
  rw [List.range_succ, List.map_append]
  congr 1
  simp [by8, dig, hu]

def FuOut (v : Nat) (w w' : World) (a : Option Addr) (n c : Nat) : Prop :=
  ND v n ∧ n ≤ 20 ∧ n ≤ c ∧ c ≤ 9223372036854775807 ∧ ((a = none ∧ n = 0 ∧ c = 0) ∨ ∃ g, a = some ⟨g, 0, none⟩ ∧ w.heap.size ≤ g ∧ 0 < n ∧ Owns w' 5 g n (by8 (dig v)))

theorem FuOut.reads {v : Nat} {w w' : World} {a : Option Addr} {n c : Nat} (h : FuOut v w w' a n c) : Reads w' a n (dig v) := by
  obtain ⟨_, _, _, _, h | ⟨g, rfl, _, _, ho⟩⟩ := h
  · obtain ⟨rfl, rfl, rfl⟩ := h
    exact Reads.nil _ _ _
  · exact ho.reads

theorem fu_out {v k u : Nat} {w wr : World} {o : Value} (hv : v ≤ 18446744073709551615) (hu : u = v / 10 ^ k) (hz : u = 0) (h : ∀ j, j < k → 0 < v / 10 ^ j)
    (hown : wr.ownsRow w.heap.size 5 1 o k ((List.range k).map (by8 (dig v)))) (hnil : k = 0 → o = .slice none 0 0) : ∃ a n c, o = .slice a n c ∧ FuOut v w wr a n c := by
  have hnd : ND v k := nd_div (by omega) h
  have hk : k ≤ 20 := by
    rcases Nat.eq_zero_or_pos k with e | e
    · omega
    · have h1 := h (k - 1) (by omega)
      have := fu_bound hv (k := k - 1) rfl h1
      omega
  rcases Nat.eq_zero_or_pos k with e | e
  · subst e
    exact ⟨none, 0, 0, hnil rfl, hnd, by omega, by omega, by omega, .inl ⟨rfl, rfl, rfl⟩⟩
  · rcases hown.2 with ⟨rfl, h0⟩ | ⟨g, cap, cur, rfl, hg, hh, hc, hm, _⟩
    · omega
    · unfold maxLen at hm
      exact ⟨_, k, cap, rfl, hnd, hk, hc, hm, .inr ⟨g, rfl, hg, e, owns_of_row hown (fun i hi => by simp [hi])⟩⟩

set_option maxHeartbeats 400000 in
theorem fromUint64_any (v : Nat) (hv : v ≤ 18446744073709551615) (w : World) :
    Calls Ydsm.prog 18 #[.int .u64 (v : Int)] w fun e w' => ∃ a n c, e = .returned (.slice a n c) ∧ FuOut v w w' a n c ∧ Below w.heap.size w w' := by
  obtain ⟨i0, hi, hz0, hz1, hz2⟩ := info_parts Ydsm.info5
  go_enter Ydsm.func18, Ydsm.ntmps18
  go_wp2
  go_loopw [0, 3] (fun sv o wr => ∃ (k u : Nat), sv = .int .u64 (u : Int) ∧ u ≤ 18446744073709551615 ∧ Hid (u = v / 10 ^ k) ∧ Hid (∀ j, j < k → 0 < v / 10 ^ j) ∧
      wr.ownsRow w.heap.size 5 1 o k ((List.range k).map (by8 (dig v))) ∧ Hid (k = 0 → o = .slice none 0 0) ∧ Below w.heap.size w wr) (fun sv _ _ => (intOf sv).toNat)
  case atStart => exact ⟨0, v, rfl, hv, (show _ = _ by simp), (show ∀ _, _ by intro j hj; omega), World.ownsRow_nil _ _ _ _, (show _ → _ from fun _ => rfl), Below.refl _ _⟩
  case round =>
    obtain ⟨k, u, rfl, hul, hu, hall, hown, hnil, hnx⟩ := hrel
    by_cases hpos : 0 < u
    · have hk := fu_bound hv hu.out hpos
      have hne : ¬ (u : Int) ≤ 0 := by omega
      go_wp2_with (at_builtin; refine wpList_append_own _ rfl _ _ 23 rfl w.heap.size 5 i0 (.int .u8 0) 1 1 Ydsm.underlying23 hi hz0 hz1 hz2 rfl (by decide) _ _ _ rfl (hown.alloc _) ⟨wr.heap.size, 0, none⟩ 1 1 [.int .u8 ((u : Int) % 10)] rfl rfl ?c1 ?c2 ?c3 ?c4 ?c5 ?_)
      case c2 => rfl
      case c3 => unfold maxLen; omega
      case c4 => omega
      case c5 => have := hnx.size; omega
      intro v' w1 hown' hgrow hnn
      have hB1 : Below w.heap.size w w1 := (hnx.alloc hnx.size _).grown hgrow (by have := hnx.size; simp; omega) (fun q hq => (hown.lt q hq).1)
      rw [fu_cells hu.out] at hown'
      have HN : Hid (k + 1 = 0 → v' = .slice none 0 0) := fun h => by omega
      have hall' : Hid (∀ j, j < k + 1 → 0 < v / 10 ^ j) := fu_more hu.out hpos hall.out
      have hu' : Hid (u / 10 = v / 10 ^ (k + 1)) := fu_step hu.out
      clear hgrow hnn hown hnx hall hu hnil
      go_wp2
      go_roundw
      case rel => exact ⟨k + 1, u / 10, by go_num, by omega, hu', hall', hown', HN, hB1⟩
      case measure => simp [intOf]; omega
    · have hz : (u : Int) = 0 := by omega
      obtain ⟨a, n, c, rfl, ho⟩ := fu_out hv hu.out (by omega) hall.out hown hnil.out
      clear hown hnil hall hu
      go_wp2
      go_ret
      exact ⟨a, n, c, rfl, ho, hnx⟩

end Go.Proofs.Ymbrds
