import Derived.Test.YmbrdsSrt
import Derived.Test.YmbrdsCSame
import Derived.Test.YmbrdsCLess
import Derived.Deep.Matrix
namespace Go.Proofs.Ymbrds
open Go.RowKit

theorem rows_of {w : World} {a : Addr} {len cap : Nat} {A : Nat → Option Addr} {L C : Nat → Nat} {Z : Nat → List Int} (hl : len ≤ cap)
    (h : ∀ r, r < cap → w.cell? (a.add r) = some (.slice (A r) (L r) (C r)) ∧ L r ≤ C r ∧ C r ≤ maxLen ∧ (Z r).length = C r ∧ (∀ n ∈ Z r, (Lit.int .u8 n).wf = true) ∧ (A r = none → C r = 0) ∧
        ∀ a', A r = some a' → 0 ≤ a'.block ∧ ∀ c, c < C r → w.cell? (a'.add c) = some (.int .u8 ((Z r).getD c 0))) :
    RdV w (some a) len (slv A L C) ∧ ∃ fd : Nat → Nat → Nat, ∀ i, i < len → L i ≤ 9223372036854775807 ∧ Reads w (A i) (L i) (fd i) := by
  constructor
  · obtain ⟨b, o, spot⟩ := a
    refine ⟨b, o, fun hn => ?_, fun i hi => ?_⟩
    · have h0 := (h 0 (by omega)).1
      have hspot : spot = none := by simpa [Addr.add] using World.cell?_spot h0
      subst hspot
      exact ⟨rfl, World.block_lt_of_cell? w _ h0⟩
    · have h0 := (h i (by omega)).1
      have hspot : spot = none := by simpa [Addr.add] using World.cell?_spot (h 0 (by omega)).1
      subst hspot
      rw [Addr.add_lit] at h0
      exact h0
  · refine Go.Deep.choose_lt (α := Nat → Nat) (p := fun i f => L i ≤ 9223372036854775807 ∧ Reads w (A i) (L i) f) fun i hi => ?_
    obtain ⟨_, h2, h3, h4, h5, h6, h7⟩ := h i (by omega)
    have h8 : L i ≤ 9223372036854775807 := by unfold maxLen at h3; omega
    cases hA : A i with
    | none =>
      have := h6 hA
      exact ⟨fun _ => 0, h8, by rw [show L i = 0 by omega]; exact Reads.nil _ _ _⟩
    | some x =>
      obtain ⟨f, hf, _⟩ := reads_of (w := w) (a := some x) (len := L i) (cap := C i) (zs := Z i) (.inr ⟨x, rfl, h2, h3, h4, fun c hc => (h7 x hA).2 c (by omega), h5⟩)
      exact ⟨f, h8, hf⟩

def copK (k : Nat) (D : Nat → Value) : Nat → Value := fun i => if i < k then D i else .slice none 0 0

theorem copK_step (k : Nat) (D : Nat → Value) (i : Nat) : (if i = k then D k else copK k D i) = copK (k + 1) D i := by
  unfold copK
  by_cases e : i = k
  · subst e; simp
  · rw [if_neg e]
    by_cases h : i < k
    · rw [if_pos h, if_pos (by omega)]
    · rw [if_neg h, if_neg (by omega)]

set_option maxHeartbeats 2000000 in
set_option maxRecDepth 100000 in
theorem law_CRank (w : World) (a0 : Option Addr) (n c0 : Nat) (ad : Nat → Option Addr) (ln cp : Nat → Nat) (fd : Nat → Nat → Nat) (r0 : RdV w a0 n (slv ad ln cp)) (hF : ∀ i, i < n → ln i ≤ 9223372036854775807 ∧ Reads w (ad i) (ln i) (fd i)) (_l0 : n ≤ c0) (_m0 : c0 ≤ 9223372036854775807) :
    Calls Ydsm.prog 9 #[.slice a0 n c0] w fun e w' => e = .returned (.bool true) ∧ Below w.heap.size w w' := by
  by_cases h0 : 256 < n
  · go_enter Ydsm.func9, Ydsm.ntmps9
    go_wp2
    go_ret
    exact ⟨rfl, Below.refl _ _⟩
  obtain ⟨ba, oa, ha, hA⟩ := r0
  have HA := mkHid hA
  have Ha := mkHid ha
  have HF := mkHid hF
  obtain ⟨C, hC⟩ : ∃ C : Nat → Nat → Int, C = fun i j => cmpF (ln i) (fd i) (ln j) (fd j) := ⟨_, rfl⟩
  have c3 : Hid (Cmp3 C) := by rw [hC]; exact cmpF_cmp3 ln fd
  have C1 : Hid (∀ i j, -1 ≤ C i j ∧ C i j ≤ 1) := by
    intro i j
    rw [hC]
    have := cmpF_three (ln i) (fd i) (ln j) (fd j)
    simp only
    omega
  have CL : Hid (∀ i j wx, i < n → j < n → Below w.heap.size w wx → ∀ L, decide (C i j = -1) = L → Calls Ydsm.prog 21 #[.slice (ad i) (ln i) (cp i), .slice (ad j) (ln j) (cp j)] wx fun e w' => e = .returned (.bool L) ∧ Below wx.heap.size wx w') := by
    intro i j wx hi hj hb L hL
    rw [hC] at hL
    exact cless_any _ _ _ _ _ _ (fd i) (fd j) wx (hF i hi).1 (hF j hj).1 ((hF i hi).2.later hb) ((hF j hj).2.later hb) L hL
  have CA : Hid (∀ i, i < n → 0 < ln i → ∃ b o, ad i = some ⟨b, o, none⟩) := by
    intro i hi hp
    obtain ⟨b, o, h, _⟩ := (hF i hi).2
    exact ⟨b, o, (h hp).1⟩
  have HC := mkHid hC
  clear ha hA hF hC
  go_enter Ydsm.func9, Ydsm.ntmps9
  go_wp2_with (at_make; refine wpList_mk _ rfl _ _ 35 rfl 23 (.slice none 0 0) 24 Ydsm.underlying35 Ydsm.info23 rfl _ _ _ _ n rfl rfl (by omega) (by omega) (by omega) (by unfold maxLen; omega) ?_)
  intro w1 ho1 hb1
  go_wp2
  go_loopw [4] (fun i wr => ∃ k : Nat, k ≤ n ∧ i = .int .i64 (k : Int) ∧ Owns wr 23 w.heap.size n (copK k (slv ad ln cp)) ∧ Below w.heap.size w wr) (fun i _ => n - (intOf i).toNat)
  case atStart => exact ⟨0, by omega, rfl, ho1.congr fun i hi => by simp [copK], hb1⟩
  case round =>
    obtain ⟨k, hk, rfl, hown, hnx⟩ := hrel
    clear ho1 hb1
    by_cases hlt : k < n
    · obtain ⟨rfl, hba⟩ := Ha.out (by omega)
      have ga : wr.cell? ⟨ba, oa + k, none⟩ = some (.slice (ad k) (ln k) (cp k)) := (hnx.cell (by exact hba)).trans (HA.out k (by omega))
      have t0 : (k : Int) < n := by omega
      have cc := hown.cell k hlt
      have zz := hown.frozen k
      have HST := mkHid ((hown.setCell k (slv ad ln cp k)).congr (G := copK (k + 1) (slv ad ln cp)) (fun i _ => copK_step k (slv ad ln cp) i))
      unfold slv at HST
      have HBS := mkHid (hnx.setCell (p := ⟨w.heap.size, k, none⟩) (Nat.le_refl _) (slv ad ln cp k))
      unfold slv at HBS
      clear hown hnx HA Ha HF CL CA C1 c3 HC
      go_wp2
      go_roundw
      case rel => exact ⟨k + 1, by omega, by go_num, HST.out, HBS.out⟩
      case measure => simp [intOf]; omega
    · have t0 : ¬ (k : Int) < n := by omega
      have own1 : Owns wr 23 w.heap.size n (slv ad ln cp) := hown.congr fun i hi => by unfold copK; rw [if_pos (by omega)]
      clear hown
      go_wp2_with fail
      refine (sort_any _ n n ad ln cp fd _ (by omega) own1.rdv (fun i hi => ⟨(HF.out i hi).1, (HF.out i hi).2.later hnx⟩) C HC.out).mono ?_
      rintro e w4 ⟨g, L, rfl, hg, hoS, hperm, hsort, hb4⟩
      have RK : Hid (∀ i, i < n → rankOf C n i < n ∧ L.getD (rankOf C n i) 0 = i) := fun i hi => rank_at c3.out hperm hsort hi
      have hc4 := below_size hnx hb4
      have own4 := own1.later hb4
      have hgs : w.heap.size < g := Nat.lt_of_lt_of_le own1.lt hg
      have qn : ((n : Int) != (n : Int)) = false := by simp
      clear hperm hsort own1 HF HC hb4 hnx t0 hlt hk hg
      go_wp2
      go_loopw [6] (fun si wr => ∃ k : Nat, k ≤ n ∧ si = .int .i64 (k : Int) ∧ Below w4.heap.size w4 wr) (fun si _ => n - (intOf si).toNat)
      case atStart => exact ⟨0, by omega, rfl, Below.refl _ _⟩
      case round =>
        obtain ⟨k, hk, rfl, hnx⟩ := hrel
        by_cases hlt : k < n
        · obtain ⟨rfl, hba⟩ := Ha.out (by omega)
          have t1 : (k : Int) < n := by omega
          have gk : wr.cell? ⟨ba, oa + k, none⟩ = some (.slice (ad k) (ln k) (cp k)) := ((below_size hc4 hnx).cell (by exact hba)).trans (HA.out k (by omega))
          go_wp2
          go_loopw [8, 9] (fun sr sj wr => ∃ j r : Nat, j ≤ n ∧ sj = .int .i64 (j : Int) ∧ sr = .int .i64 (r : Int) ∧ r ≤ j ∧ Hid (rankOf C j k = r) ∧ Below w4.heap.size w4 wr) (fun _ sj _ => n - (intOf sj).toNat)
          case atStart => exact ⟨0, 0, by omega, rfl, rfl, by omega, (show _ = _ by rfl), hnx⟩
          case round =>
            clear hnx gk
            obtain ⟨j, r, hj, rfl, rfl, hrj, hrk, hnx2⟩ := hrel
            have hcx := below_size hc4 hnx2
            by_cases hjl : j < n
            · have gj : wr.cell? ⟨ba, oa + j, none⟩ = some (.slice (ad j) (ln j) (cp j)) := (hcx.cell (by exact hba)).trans (HA.out j (by omega))
              have t2 : (j : Int) < n := by omega
              by_cases h1 : C j k = -1
              · have d1 : C j k < 0 := by rw [h1]; decide
                have HR : Hid (rankOf C (j + 1) k = r + 1) := by
                  show _ = _
                  rw [rankOf_succ, hrk.out]
                  simp [bef, d1]
                go_wp2_with fail
                refine (CL.out j k _ hjl hlt hcx _ (decide_eq_true h1)).mono ?_
                rintro e w5 ⟨rfl, hb5⟩
                have hnx3 := below_size hnx2 hb5
                have hcx3 := below_size hcx hb5
                clear hrk RK c3 hoS own4 CL HA Ha gj C1 CA
                go_wp2
                go_roundw
                case rel => exact ⟨j + 1, r + 1, by omega, by go_num, by go_num, by omega, HR, hnx3⟩
                case measure => simp [intOf]; omega
              by_cases h2 : j < k
              · by_cases h3 : C j k = 1
                · have q2 : (j : Int) < (k : Int) := by omega
                  have d1 : ¬ C j k < 0 := by omega
                  have d2 : ¬ C j k = 0 := by omega
                  have d3 : C k j = -1 := by have := c3.out.swap j k; omega
                  have HR : Hid (rankOf C (j + 1) k = r) := by
                    show _ = _
                    rw [rankOf_succ, hrk.out]
                    simp [bef, d1, d2]
                  go_wp2_with fail
                  refine (CL.out j k _ hjl hlt hcx _ (decide_eq_false h1)).mono ?_
                  rintro e w5 ⟨rfl, hb5⟩
                  have hnx3 := below_size hnx2 hb5
                  have hcx3 := below_size hcx hb5
                  go_wp2_with fail
                  refine (CL.out k j _ hlt hjl hcx3 _ (decide_eq_true d3)).mono ?_
                  rintro e w6 ⟨rfl, hb6⟩
                  have hnx4 := below_size hnx3 hb6
                  clear hrk RK c3 hoS own4 CL HA Ha gj C1 CA
                  go_wp2
                  go_roundw
                  case rel => exact ⟨j + 1, r, by omega, by go_num, rfl, by omega, HR, hnx4⟩
                  case measure => simp [intOf]; omega
                · have q2 : (j : Int) < (k : Int) := by omega
                  have d2 : C j k = 0 := by have := C1.out j k; omega
                  have d3 : ¬ C k j = -1 := by have := c3.out.swap j k; omega
                  have HR : Hid (rankOf C (j + 1) k = r + 1) := by
                    show _ = _
                    rw [rankOf_succ, hrk.out]
                    simp [bef, d2, h2]
                  go_wp2_with fail
                  refine (CL.out j k _ hjl hlt hcx _ (decide_eq_false h1)).mono ?_
                  rintro e w5 ⟨rfl, hb5⟩
                  have hnx3 := below_size hnx2 hb5
                  have hcx3 := below_size hcx hb5
                  go_wp2_with fail
                  refine (CL.out k j _ hlt hjl hcx3 _ (decide_eq_false d3)).mono ?_
                  rintro e w6 ⟨rfl, hb6⟩
                  have hnx4 := below_size hnx3 hb6
                  clear hrk RK c3 hoS own4 CL HA Ha gj C1 CA
                  go_wp2
                  go_roundw
                  case rel => exact ⟨j + 1, r + 1, by omega, by go_num, by go_num, by omega, HR, hnx4⟩
                  case measure => simp [intOf]; omega
              · have q2 : ¬ (j : Int) < (k : Int) := by omega
                have q2' : decide ((j : Int) < (k : Int)) = false := by simp; omega
                have d1 : ¬ C j k < 0 := by have := C1.out j k; omega
                have HR : Hid (rankOf C (j + 1) k = r) := by
                  show _ = _
                  rw [rankOf_succ, hrk.out]
                  simp [bef, d1, h2]
                go_wp2_with fail
                refine (CL.out j k _ hjl hlt hcx _ (decide_eq_false h1)).mono ?_
                rintro e w5 ⟨rfl, hb5⟩
                have hnx3 := below_size hnx2 hb5
                have hcx3 := below_size hcx hb5
                clear hrk RK c3 hoS own4 CL HA Ha gj C1 CA
                go_wp2
                go_roundw
                case rel => exact ⟨j + 1, r, by omega, by go_num, rfl, by omega, HR, hnx3⟩
                case measure => simp [intOf]; omega
            · have t2 : ¬ (j : Int) < n := by omega
              have er : rankOf C n k = r := by rw [← hrk.out, show j = n by omega]
              obtain ⟨k1, k2⟩ := RK.out k hlt
              rw [er] at k1 k2
              have cs := (hoS.later hnx2).cell r k1
              simp only [k2] at cs
              unfold slv at cs
              have q5 : decide ((n : Int) ≤ (r : Int)) = false := by simp; omega
              have q5' : decide (n ≤ r) = false := by simp; omega
              have q6 : (r : Int) < n := by omega
              have KA := mkHid (CA.out k hlt)
              clear HA Ha hcx hc4 CA hrk er k2 RK CL C1 c3 hoS own4
              go_wp2_with fail
              refine (csame_refl _ _ _ _ KA.out).mono ?_
              rintro e w5 ⟨rfl, m, rfl⟩
              go_wp2
              go_roundw
              case rel => exact ⟨k + 1, by omega, by go_num, bdrew hnx2 _⟩
              case measure => simp [intOf]; omega
        · have t1 : ¬ (k : Int) < n := by omega
          have hcx := below_size hc4 hnx
          have hoS5 := hoS.later hnx
          have own5 := own4.later hnx
          clear hoS own4 RK CL C1 c3 hnx hc4
          go_wp2
          go_loopw [11] (fun si wr => ∃ (j : Nat) (F : Nat → Value), j ≤ n ∧ si = .int .i64 (j : Int) ∧ Owns wr 23 g n F ∧ Owns wr 23 w.heap.size n (slv ad ln cp) ∧ Below w.heap.size w wr) (fun si _ => n - (intOf si).toNat)
          case atStart => exact ⟨0, _, by omega, rfl, hoS5, own5, hcx⟩
          case round =>
            clear hoS5 own5 hcx
            obtain ⟨j, F, hj, rfl, hown, hds, hnx⟩ := hrel
            by_cases hjl : j < n
            · have cc := hown.cell j hjl
              have zz := hown.frozen j
              have t2 : (j : Int) < n := by omega
              have HST := mkHid (hown.setCell j (.slice none 0 0))
              have HDS := mkHid (hds.otherCell ⟨g, j, none⟩ (.slice none 0 0) (by simp; omega))
              have HBS := mkHid (hnx.setCell (p := ⟨g, j, none⟩) (by simp; omega) (.slice none 0 0))
              clear hown hds hnx HA Ha CA
              go_wp2
              go_roundw
              case rel => exact ⟨j + 1, _, by omega, by go_num, HST.out, HDS.out, HBS.out⟩
              case measure => simp [intOf]; omega
            · have t2 : ¬ (j : Int) < n := by omega
              clear hown
              go_wp2
              go_loopw [12] (fun si wr => ∃ j : Nat, j ≤ n ∧ si = .int .i64 (j : Int) ∧ Owns wr 23 w.heap.size n (slv ad ln cp) ∧ Below w.heap.size w wr) (fun si _ => n - (intOf si).toNat)
              case atStart => exact ⟨0, by omega, rfl, hds, hnx⟩
              case round =>
                clear hds hnx
                obtain ⟨i, hi, rfl, hds, hnx⟩ := hrel
                by_cases hil : i < n
                · obtain ⟨rfl, hba⟩ := Ha.out (by omega)
                  have gi : wr.cell? ⟨ba, oa + i, none⟩ = some (.slice (ad i) (ln i) (cp i)) := (hnx.cell (by exact hba)).trans (HA.out i (by omega))
                  have cd := hds.cell i hil
                  unfold slv at cd
                  have t3 : (i : Int) < n := by omega
                  have KA := mkHid (CA.out i hil)
                  clear HA Ha CA
                  go_wp2
                  go_quiet (first | (go_at_call 22; exact Calls.quiet_of (csame_refl _ _ _ _ KA.out)))
                  go_wp2
                  go_roundw
                  case rel => exact ⟨i + 1, by omega, by go_num, hds.drewN _, bdrew hnx _⟩
                  case measure => simp [intOf]; omega
                · have t3 : ¬ (i : Int) < n := by omega
                  clear HA Ha CA hds
                  go_wp2
                  go_ret
                  exact ⟨rfl, hnx⟩

end Go.Proofs.Ymbrds
