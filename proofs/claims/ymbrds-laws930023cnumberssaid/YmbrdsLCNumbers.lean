import Derived.Test.YmbrdsSrt
import Derived.Test.YmbrdsCSame
namespace Go.Proofs.Ymbrds
open Go.RowKit

def by64 (f : Nat → Nat) : Nat → Value := fun i => .int .u64 (f i : Int)

theorem reads64_of {w : World} {a : Option Addr} {len cap : Nat} {zs : List Int}
    (h : (a = none ∧ len = 0 ∧ cap = 0 ∧ zs = []) ∨ ∃ x, a = some x ∧ len ≤ cap ∧ cap ≤ maxLen ∧ zs.length = cap ∧ (∀ i, i < zs.length → w.cell? (x.add i) = some (.int .u64 (zs.getD i 0))) ∧ ∀ n ∈ zs, (Lit.int .u64 n).wf = true) :
    ∃ f, RdV w a len (by64 f) ∧ (∀ j, f j ≤ 18446744073709551615) ∧ len ≤ cap ∧ cap ≤ 9223372036854775807 := by
  rcases h with ⟨rfl, rfl, rfl, rfl⟩ | ⟨⟨b, o, spot⟩, rfl, hl, hm, hz, hc, hw⟩
  · exact ⟨fun _ => 0, ⟨0, 0, fun h => by omega, fun i hi => by omega⟩, fun _ => by simp, Nat.le_refl _, by omega⟩
  · have hb : ∀ j, 0 ≤ zs.getD j 0 ∧ zs.getD j 0 ≤ 18446744073709551615 := by
      intro j
      by_cases hj : j < zs.length
      · have h2 := hw (zs.getD j 0) (by simp [List.getD, hj])
        exact bounds_u64 h2
      · simp [List.getD, List.getElem?_eq_none (Nat.le_of_not_lt hj)]
    refine ⟨fun j => (zs.getD j 0).toNat, ⟨b, o, fun hn => ?_, fun i hi => ?_⟩, fun j => ?_, hl, by unfold maxLen at hm; exact hm⟩
    · have h0 := hc 0 (by omega)
      have hspot : spot = none := by simpa [Addr.add] using World.cell?_spot h0
      subst hspot
      exact ⟨rfl, World.block_lt_of_cell? w _ h0⟩
    · have h0 := hc i (by omega)
      have hspot : spot = none := by simpa [Addr.add] using World.cell?_spot (hc 0 (by omega))
      subst hspot
      rw [Addr.add_lit] at h0
      unfold by64
      rw [h0, Int.toNat_of_nonneg (hb i).1]
    · show (zs.getD j 0).toNat ≤ 18446744073709551615
      have := hb j
      omega

def Good (w : World) (gd v : Nat) (x : Value) : Prop :=
  ∃ a l c, x = .slice a l c ∧ l ≤ 20 ∧ ND v l ∧ (l = 0 ∨ ∃ g, a = some ⟨g, 0, none⟩ ∧ gd ≠ g ∧ Owns w 5 g l (by8 (dig v)))

theorem Good.later {w w' : World} {gd v : Nat} {x : Value} (h : Good w gd v x) (hb : Below w.heap.size w w') : Good w' gd v x := by
  obtain ⟨a, l, c, rfl, h1, h2, h3⟩ := h
  refine ⟨a, l, c, rfl, h1, h2, ?_⟩
  rcases h3 with h3 | ⟨g, rfl, h4, h5⟩
  · exact .inl h3
  · exact .inr ⟨g, rfl, h4, h5.later hb⟩

theorem Good.set {w : World} {gd v : Nat} {x : Value} (h : Good w gd v x) (i : Nat) (y : Value) : Good (w.setCell ⟨gd, i, none⟩ y) gd v x := by
  obtain ⟨a, l, c, rfl, h1, h2, h3⟩ := h
  refine ⟨a, l, c, rfl, h1, h2, ?_⟩
  rcases h3 with h3 | ⟨g, rfl, h4, h5⟩
  · exact .inl h3
  · exact .inr ⟨g, rfl, h4, h5.otherCell _ _ (fun e => h4 e.symm)⟩

theorem Good.fu {w w' : World} {gd v : Nat} {a : Option Addr} {n c : Nat} (h : FuOut v w w' a n c) (hg : gd < w.heap.size) : Good w' gd v (.slice a n c) := by
  obtain ⟨h1, h2, _, _, h5⟩ := h
  refine ⟨a, n, c, rfl, h2, h1, ?_⟩
  rcases h5 with ⟨_, rfl, _⟩ | ⟨g, rfl, h6, _, h7⟩
  · exact .inl rfl
  · exact .inr ⟨g, rfl, by omega, h7⟩

theorem Good.empty (w : World) (gd : Nat) (a : Option Addr) (c : Nat) : Good w gd 0 (.slice a 0 c) := ⟨a, 0, c, rfl, by omega, ND.zero, .inl rfl⟩

def adV : Value → Option Addr | .slice a _ _ => a | _ => none
def lnV : Value → Nat | .slice _ l _ => l | _ => 0
def cpV : Value → Nat | .slice _ _ c => c | _ => 0

theorem Good.parts {w : World} {gd v : Nat} {x : Value} (h : Good w gd v x) : x = .slice (adV x) (lnV x) (cpV x) ∧ lnV x ≤ 20 ∧ ND v (lnV x) ∧ Reads w (adV x) (lnV x) (dig v) ∧ (0 < lnV x → ∃ b o, adV x = some ⟨b, o, none⟩) := by
  obtain ⟨a, l, c, rfl, h1, h2, h3⟩ := h
  refine ⟨rfl, h1, h2, ?_, ?_⟩
  · rcases h3 with rfl | ⟨g, rfl, h4, h5⟩
    · exact Reads.nil _ _ _
    · exact h5.reads
  · intro hp
    rcases h3 with rfl | ⟨g, rfl, h4, h5⟩
    · exact absurd hp (by simp [lnV])
    · exact ⟨g, 0, rfl⟩

theorem bef_sgn {C : Nat → Nat → Int} {i j x y : Nat} (h : C i j = sgn x y) : bef C i j = (decide (x < y) || (decide (x = y) && decide (i < j))) := by
  unfold bef
  rw [h]
  unfold sgn
  by_cases h1 : x < y
  · simp [h1]
  · rw [if_neg h1]
    by_cases h2 : y < x
    · rw [if_pos h2]
      have : ¬ x = y := by omega
      simp [h1, this]
    · rw [if_neg h2]
      have : x = y := by omega
      simp [this]

set_option maxHeartbeats 2000000 in
set_option maxRecDepth 100000 in
theorem law_CNumbers (w : World) (a0 : Option Addr) (n c0 : Nat) (v : Nat → Nat) (r0 : RdV w a0 n (by64 v)) (b0 : ∀ j, v j ≤ 18446744073709551615) (_l0 : n ≤ c0) (_m0 : c0 ≤ 9223372036854775807) :
    Calls Ydsm.prog 10 #[.slice a0 n c0] w fun e w' => e = .returned (.bool true) ∧ Below w.heap.size w w' := by
  by_cases h0 : 512 < n
  · go_enter Ydsm.func10, Ydsm.ntmps10
    go_wp2
    go_ret
    exact ⟨rfl, Below.refl _ _⟩
  obtain ⟨ba, oa, ha, hA⟩ := r0
  have HA := mkHid hA
  have Ha := mkHid ha
  have B0 := mkHid b0
  clear ha hA b0
  go_enter Ydsm.func10, Ydsm.ntmps10
  go_wp2_with (at_make; refine wpList_mk _ rfl _ _ 35 rfl 23 (.slice none 0 0) 24 Ydsm.underlying35 Ydsm.info23 rfl _ _ _ _ n rfl rfl (by omega) (by omega) (by omega) (by unfold maxLen; omega) ?_)
  intro w1 ho1 hb1
  go_wp2
  go_loopw [4] (fun i wr => ∃ (k : Nat) (F : Nat → Value), k ≤ n ∧ i = .int .i64 (k : Int) ∧ Owns wr 23 w.heap.size n F ∧ Hid (∀ i, i < k → Good wr w.heap.size (v i) (F i)) ∧ Below w.heap.size w wr) (fun i _ => n - (intOf i).toNat)
  case atStart => exact ⟨0, _, by omega, rfl, ho1, mkHid (fun i hi => by omega), hb1⟩
  case round =>
    obtain ⟨k, F, hk, rfl, hown, hgood, hnx⟩ := hrel
    clear ho1 hb1
    by_cases hlt : k < n
    · obtain ⟨rfl, hba⟩ := Ha.out (by omega)
      have ga : wr.cell? ⟨ba, oa + k, none⟩ = some (.int .u64 (v k : Int)) := (hnx.cell (by exact hba)).trans (HA.out k (by omega))
      have t0 : (k : Int) < n := by omega
      have bk := B0.out k
      go_wp2_with fail
      refine (fromUint64_any (v k) bk _).mono ?_
      rintro e w3 ⟨a, l, c, rfl, ho, hb3⟩
      have hgd : w.heap.size < wr.heap.size := hown.lt
      have hc3 := below_later hnx hb3 (by omega)
      have own3 := hown.later hb3
      have good3 : Hid (∀ i, i < k → Good w3 w.heap.size (v i) (F i)) := fun i hi => (hgood.out i hi).later hb3
      have gk3 := mkHid (Good.fu ho hgd)
      have c1 := own3.cell k hlt
      have z1 := own3.frozen k
      have hbs := hc3.setCell (p := ⟨w.heap.size, k, none⟩) (Nat.le_refl _) (.slice a l c)
      have ga2 : (w3.setCell ⟨w.heap.size, k, none⟩ (.slice a l c)).cell? ⟨ba, oa + k, none⟩ = some (.int .u64 (v k : Int)) := (hbs.cell (by exact hba)).trans (HA.out k (by omega))
      have HST := mkHid (own3.setCell k (.slice a l c))
      have GD : Hid (∀ i, i < k + 1 → Good (w3.setCell ⟨w.heap.size, k, none⟩ (.slice a l c)) w.heap.size (v i) ((fun j => if j = k then .slice a l c else F j) i)) := by
        intro i hi
        by_cases e : i = k
        · subst e
          simp only [if_true]
          exact gk3.out.set _ _
        · simp only [if_neg e]
          exact (good3.out i (by omega)).set _ _
      have HBS := mkHid hbs
      clear good3 gk3 hgood hown hnx own3 hbs ho hb3 hc3
      by_cases hz : v k = 0
      · by_cases hodd : k % 2 = 1
        · have q1 : ((v k : Int) == 0) = true := beq_iff_eq.2 (by omega)
          have q2 : ((k : Int) % 2 == 1) = true := beq_iff_eq.2 (by omega)
          obtain ⟨X, hX⟩ : ∃ X, w3.setCell ⟨w.heap.size, k, none⟩ (.slice a l c) = X := ⟨_, rfl⟩
          have hXs : X.heap.size = w3.heap.size := by rw [← hX]; simp [World.setCell]
          rw [hX] at HST GD HBS ga2
          have hal : Below X.heap.size X (X.alloc (Obj.cells #[] 5)) := (Below.refl _ _).alloc (Nat.le_refl _) _
          have own4 := HST.out.later hal
          have c4 : (X.alloc (Obj.cells #[] 5)).cell? ⟨w.heap.size, k, none⟩ = some (.slice a l c) := by have := own4.cell k hlt; simpa using this
          have z4 := own4.frozen k
          have HST2 := mkHid (own4.setCell k (.slice (some ⟨w3.heap.size, 0, none⟩) 0 0))
          have HBS2 := mkHid ((HBS.out.alloc (show w.heap.size ≤ X.heap.size from HBS.out.size) (Obj.cells #[] 5)).setCell (p := ⟨w.heap.size, k, none⟩) (Nat.le_refl _) (.slice (some ⟨w3.heap.size, 0, none⟩) 0 0))
          have GD2 : Hid (∀ i, i < k + 1 → Good ((X.alloc (Obj.cells #[] 5)).setCell ⟨w.heap.size, k, none⟩ (.slice (some ⟨w3.heap.size, 0, none⟩) 0 0)) w.heap.size (v i) ((fun j => if j = k then .slice (some ⟨w3.heap.size, 0, none⟩) 0 0 else (fun j => if j = k then .slice a l c else F j) j) i)) := by
            intro i hi
            by_cases e : i = k
            · subst e
              simp only [if_true]
              rw [hz]
              exact Good.empty _ _ _ _
            · have := GD.out i hi
              simp only [if_neg e] at this ⊢
              exact (this.later hal).set _ _
          subst hX
          clear own4 hal hXs HST HBS GD
          go_wp2
          go_roundw
          case rel => exact ⟨k + 1, _, by omega, by go_num, HST2.out, GD2, HBS2.out⟩
          case measure => simp [intOf]; omega
        · have q1 : ((v k : Int) == 0) = true := beq_iff_eq.2 (by omega)
          have q2 : ((k : Int) % 2 == 1) = false := beq_eq_false_iff_ne.2 (by omega)
          go_wp2
          go_roundw
          case rel => exact ⟨k + 1, _, by omega, by go_num, HST.out, GD, HBS.out⟩
          case measure => simp [intOf]; omega
      · have q1 : ((v k : Int) == 0) = false := beq_eq_false_iff_ne.2 (by omega)
        go_wp2
        go_roundw
        case rel => exact ⟨k + 1, _, by omega, by go_num, HST.out, GD, HBS.out⟩
        case measure => simp [intOf]; omega
    · have t0 : ¬ (k : Int) < n := by omega
      have PT : ∀ i, i < n → F i = .slice (adV (F i)) (lnV (F i)) (cpV (F i)) ∧ lnV (F i) ≤ 20 ∧ ND (v i) (lnV (F i)) ∧ Reads wr (adV (F i)) (lnV (F i)) (dig (v i)) ∧ (0 < lnV (F i) → ∃ b o, adV (F i) = some ⟨b, o, none⟩) :=
        fun i hi => (hgood.out i (by omega)).parts
      obtain ⟨ad, had⟩ : ∃ ad : Nat → Option Addr, ad = fun i => adV (F i) := ⟨_, rfl⟩
      obtain ⟨ln, hln⟩ : ∃ ln : Nat → Nat, ln = fun i => lnV (F i) := ⟨_, rfl⟩
      obtain ⟨cp, hcp⟩ : ∃ cp : Nat → Nat, cp = fun i => cpV (F i) := ⟨_, rfl⟩
      have own1 : Owns wr 23 w.heap.size n (slv ad ln cp) := hown.congr fun i hi => by rw [had, hln, hcp]; exact (PT i hi).1
      have hF : Hid (∀ i, i < n → ln i ≤ 9223372036854775807 ∧ Reads wr (ad i) (ln i) (dig (v i))) := fun i hi => by rw [had, hln]; exact ⟨Nat.le_trans (PT i hi).2.1 (by omega), (PT i hi).2.2.2.1⟩
      have hAD : Hid (∀ i, i < n → 0 < ln i → ∃ b o, ad i = some ⟨b, o, none⟩) := fun i hi => by rw [had, hln]; exact (PT i hi).2.2.2.2
      have hND : Hid (∀ i, i < n → ND (v i) (ln i)) := fun i hi => by rw [hln]; exact (PT i hi).2.2.1
      obtain ⟨C, hC⟩ : ∃ C : Nat → Nat → Int, C = fun i j => cmpF (ln i) (dig (v i)) (ln j) (dig (v j)) := ⟨_, rfl⟩
      have c3 : Hid (Cmp3 C) := by rw [hC]; exact cmpF_cmp3 ln (fun i => dig (v i))
      have CS : Hid (∀ i j, i < n → j < n → C i j = sgn (v i) (v j)) := by
        intro i j hi hj
        rw [hC]
        simp only
        rw [cmpF_sgn (hND.out i hi).canon (hND.out j hj).canon, (hND.out i hi).val, (hND.out j hj).val]
      have HC := mkHid hC
      clear PT had hln hcp hND hC hown hgood hk hlt
      go_wp2_with fail
      refine (sort_any _ n n ad ln cp (fun i => dig (v i)) _ (by omega) own1.rdv hF.out C HC.out).mono ?_
      rintro e w4 ⟨g, L, rfl, hg, hoS, hperm, hsort, hb4⟩
      have RK : Hid (∀ i, i < n → rankOf C n i < n ∧ L.getD (rankOf C n i) 0 = i) := fun i hi => rank_at c3.out hperm hsort hi
      have hc4 := below_size hnx hb4
      have own4 := own1.later hb4
      have qn : ((n : Int) != (n : Int)) = false := by simp
      clear hperm hsort own1 hF HC hb4 hnx B0
      go_wp2
      go_loopw [6] (fun si wr => ∃ k : Nat, k ≤ n ∧ si = .int .i64 (k : Int) ∧ Below w4.heap.size w4 wr) (fun si _ => n - (intOf si).toNat)
      case atStart => exact ⟨0, by omega, rfl, Below.refl _ _⟩
      case round =>
        obtain ⟨k, hk, rfl, hnx⟩ := hrel
        by_cases hlt : k < n
        · obtain ⟨rfl, hba⟩ := Ha.out (by omega)
          have t1 : (k : Int) < n := by omega
          go_wp2
          go_loopw [7, 8] (fun sr sj wr => ∃ j r : Nat, j ≤ n ∧ sj = .int .i64 (j : Int) ∧ sr = .int .i64 (r : Int) ∧ r ≤ j ∧ Hid (rankOf C j k = r) ∧ Below w4.heap.size w4 wr) (fun _ sj _ => n - (intOf sj).toNat)
          case atStart => exact ⟨0, 0, by omega, rfl, rfl, by omega, (show _ = _ by rfl), hnx⟩
          case round =>
            clear hnx
            obtain ⟨j, r, hj, rfl, rfl, hrj, hrk, hnx2⟩ := hrel
            have hcx := below_size hc4 hnx2
            by_cases hjl : j < n
            · have gi : wr.cell? ⟨ba, oa + k, none⟩ = some (.int .u64 (v k : Int)) := (hcx.cell (by exact hba)).trans (HA.out k (by omega))
              have gj : wr.cell? ⟨ba, oa + j, none⟩ = some (.int .u64 (v j : Int)) := (hcx.cell (by exact hba)).trans (HA.out j (by omega))
              have t2 : (j : Int) < n := by omega
              clear HA Ha hcx hc4 hAD
              by_cases h1 : v j < v k
              · have q1 : (v j : Int) < (v k : Int) := by omega
                have HR : Hid (rankOf C (j + 1) k = r + 1) := by
                  show _ = _
                  rw [rankOf_succ, hrk.out, bef_sgn (CS.out j k hjl hlt)]
                  simp [h1]
                clear hrk CS RK c3 hoS own4
                go_wp2
                go_quiet (fail)
                go_wp2
                go_roundw
                case rel => exact ⟨j + 1, r + 1, by omega, by go_num, by go_num, by omega, HR, bdrew hnx2 _⟩
                case measure => simp [intOf]; omega
              by_cases h2 : j < k
              · by_cases h3 : v j = v k
                · have q1 : decide ((v j : Int) < (v k : Int)) = false := by simp; omega
                  have q1' : decide (v j < v k) = false := by simp; omega
                  have q2 : (j : Int) < (k : Int) := by omega
                  have q3 : ((v j : Int) == (v k : Int)) = true := by simp; omega
                  have HR : Hid (rankOf C (j + 1) k = r + 1) := by
                    show _ = _
                    rw [rankOf_succ, hrk.out, bef_sgn (CS.out j k hjl hlt)]
                    simp [h2, h3]
                  clear hrk CS RK c3 hoS own4
                  go_wp2
                  go_quiet (fail)
                  go_wp2
                  go_roundw
                  case rel => exact ⟨j + 1, r + 1, by omega, by go_num, by go_num, by omega, HR, bdrew hnx2 _⟩
                  case measure => simp [intOf]; omega
                · have q1 : decide ((v j : Int) < (v k : Int)) = false := by simp; omega
                  have q1' : decide (v j < v k) = false := by simp; omega
                  have q2 : (j : Int) < (k : Int) := by omega
                  have q3 : ((v j : Int) == (v k : Int)) = false := beq_eq_false_iff_ne.2 (by omega)
                  have HR : Hid (rankOf C (j + 1) k = r) := by
                    show _ = _
                    rw [rankOf_succ, hrk.out, bef_sgn (CS.out j k hjl hlt)]
                    simp [h1, h3]
                  clear hrk CS RK c3 hoS own4
                  go_wp2
                  go_quiet (fail)
                  go_wp2
                  go_roundw
                  case rel => exact ⟨j + 1, r, by omega, by go_num, rfl, by omega, HR, bdrew hnx2 _⟩
                  case measure => simp [intOf]; omega
              · have q1 : decide ((v j : Int) < (v k : Int)) = false := by simp; omega
                have q1' : decide (v j < v k) = false := by simp; omega
                have q2 : decide ((j : Int) < (k : Int)) = false := by simp; omega
                have q2' : decide (j < k) = false := by simp; omega
                have HR : Hid (rankOf C (j + 1) k = r) := by
                  show _ = _
                  rw [rankOf_succ, hrk.out, bef_sgn (CS.out j k hjl hlt)]
                  simp [h1, h2]
                clear hrk CS RK c3 hoS own4
                go_wp2
                go_quiet (fail)
                go_wp2
                go_roundw
                case rel => exact ⟨j + 1, r, by omega, by go_num, rfl, by omega, HR, bdrew hnx2 _⟩
                case measure => simp [intOf]; omega
            · have t2 : ¬ (j : Int) < n := by omega
              have er : rankOf C n k = r := by rw [← hrk.out, show j = n by omega]
              obtain ⟨k1, k2⟩ := RK.out k hlt
              rw [er] at k1 k2
              have cs := (hoS.later hnx2).cell r k1
              simp only [k2] at cs
              have cd := (own4.later hnx2).cell k hlt
              unfold slv at cs cd
              have q5 : decide ((n : Int) ≤ (r : Int)) = false := by simp; omega
              have q5' : decide (n ≤ r) = false := by simp; omega
              have q6 : (r : Int) < n := by omega
              have KA := mkHid (hAD.out k hlt)
              clear HA Ha hcx hc4 hAD hrk er k2 RK CS c3 hoS own4
              go_wp2
              go_quiet (first | (go_at_call 22; exact Calls.quiet_of (csame_refl _ _ _ _ KA.out)))
              go_wp2
              go_roundw
              case rel => exact ⟨k + 1, by omega, by go_num, bdrew hnx2 _⟩
              case measure => simp [intOf]; omega
        · have t1 : ¬ (k : Int) < n := by omega
          have hcx := below_size hc4 hnx
          clear HA Ha hoS own4 RK CS c3
          go_wp2
          go_ret
          exact ⟨rfl, hcx⟩

end Go.Proofs.Ymbrds
