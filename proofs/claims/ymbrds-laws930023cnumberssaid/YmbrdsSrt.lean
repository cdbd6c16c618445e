import Derived.Test.YmbrdsFu
import Derived.Test.YmbrdsCmp
import Derived.Test.YmbrdsPlainC
namespace Go.Proofs.Ymbrds
open Go.RowKit

theorem Ydsm.info23 : (Ydsm.prog.info? 23).map (fun i => (i.zero, i.size, i.bytes)) = some (some (.slice none 0 0), 1, 24) := by kernel_rfl
theorem Ydsm.info23s : (Ydsm.prog.info? 23).map (·.size) = some 1 := by kernel_rfl

def RdV (w : World) (a : Option Addr) (n : Nat) (F : Nat → Value) : Prop :=
  ∃ b o, (0 < n → a = some ⟨b, o, none⟩ ∧ b < w.heap.size) ∧ ∀ i, i < n → w.cell? ⟨b, o + i, none⟩ = some (F i)

theorem RdV.later {w w' : World} {a : Option Addr} {n : Nat} {F : Nat → Value} (h : RdV w a n F) (hb : Below w.heap.size w w') : RdV w' a n F := by
  obtain ⟨b, o, ha, hc⟩ := h
  refine ⟨b, o, fun hn => ⟨(ha hn).1, Nat.lt_of_lt_of_le (ha hn).2 hb.size⟩, fun i hi => ?_⟩
  rw [hb.cell (p := ⟨b, o + i, none⟩) (ha (by omega)).2]
  exact hc i hi

theorem Owns.rdv {w : World} {e g n : Nat} {F : Nat → Value} (h : Owns w e g n F) : RdV w (some ⟨g, 0, none⟩) n F :=
  ⟨g, 0, fun _ => ⟨rfl, h.lt⟩, fun i hi => by rw [Nat.zero_add]; exact h.cell i hi⟩

def slv (ad : Nat → Option Addr) (ln cp : Nat → Nat) : Nat → Value := fun i => .slice (ad i) (ln i) (cp i)

def SortOut (w w' : World) (e : Ending) (n : Nat) (D : Nat → Value) (C : Nat → Nat → Int) : Prop :=
  ∃ (g : Nat) (L : List Nat), e = .returned (.slice (some ⟨g, 0, none⟩) n n) ∧ w.heap.size ≤ g ∧ Owns w' 23 g n (fun p => D (L.getD p 0)) ∧ L.Perm (List.range n) ∧ L.Pairwise (fun a b => bef C a b = true) ∧ Below w.heap.size w w'

theorem SortOut.make {w w' : World} {e : Ending} {n : Nat} {D : Nat → Value} {C : Nat → Nat → Int} (g : Nat) (L : List Nat) (h1 : e = .returned (.slice (some ⟨g, 0, none⟩) n n)) (h2 : w.heap.size ≤ g) (h3 : Owns w' 23 g n (fun p => D (L.getD p 0)))
    (h4 : L.Perm (List.range n)) (h5 : L.Pairwise (fun a b => bef C a b = true)) (h6 : Below w.heap.size w w') : SortOut w w' e n D C := ⟨g, L, h1, h2, h3, h4, h5, h6⟩

structure SrtAt (C : Nat → Nat → Int) (k : Nat) (M : Nat → Nat) (L : List Nat) : Prop where
  perm : L.Perm (List.range k)
  sorted : L.Pairwise (fun a b => bef C a b = true)
  low : ∀ p, p < k → M p = L.getD p 0
  high : ∀ p, k ≤ p → M p = p

structure SrtIn (C : Nat → Nat → Int) (k j : Nat) (M : Nat → Nat) (L : List Nat) : Prop where
  perm : L.Perm (List.range k)
  sorted : L.Pairwise (fun a b => bef C a b = true)
  low : ∀ p, p < j → M p = L.getD p 0
  mid : ∀ p, j < p → p ≤ k → M p = L.getD (p - 1) 0
  high : ∀ p, k < p → M p = p
  gt : ∀ p, j ≤ p → p < k → 0 < C (L.getD p 0) k

theorem SrtAt.start {C : Nat → Nat → Int} : SrtAt C 1 id [0] :=
  ⟨by simp, by simp, fun p hp => by obtain rfl : p = 0 := by omega
                                    rfl, fun p _ => rfl⟩

theorem SrtAt.enter {C : Nat → Nat → Int} {k : Nat} {M : Nat → Nat} {L : List Nat} (h : SrtAt C k M L) : SrtIn C k k M L :=
  ⟨h.perm, h.sorted, h.low, fun p h1 h2 => by omega, fun p hp => h.high p (by omega), fun p h1 h2 => by omega⟩

theorem SrtIn.step {C : Nat → Nat → Int} {k j : Nat} {M : Nat → Nat} {L : List Nat} (h : SrtIn C k (j + 1) M L) (hj : j + 1 ≤ k) (hc : 0 < C (M j) k) : SrtIn C k j (upd M (j + 1) (M j)) L := by
  refine ⟨h.perm, h.sorted, fun p hp => ?_, fun p h1 h2 => ?_, fun p hp => ?_, fun p h1 h2 => ?_⟩
  · rw [upd_other _ _ _ _ (by omega)]; exact h.low p (by omega)
  · by_cases e : p = j + 1
    · subst e; rw [upd_same]; exact h.low j (by omega)
    · rw [upd_other _ _ _ _ e]; exact h.mid p (by omega) h2
  · rw [upd_other _ _ _ _ (by omega)]; exact h.high p hp
  · by_cases e : p = j
    · subst e; rw [← h.low p (by omega)]; exact hc
    · exact h.gt p (by omega) h2

theorem SrtIn.leave {C : Nat → Nat → Int} (hC : Cmp3 C) {k j : Nat} {M : Nat → Nat} {L : List Nat} (h : SrtIn C k j M L) (hj : j ≤ k) (hc : 0 < j → C (M (j - 1)) k ≤ 0) : SrtAt C (k + 1) (upd M j k) (ins L j k) := by
  have hlen : L.length = k := by rw [h.perm.length_eq]; simp
  refine ⟨ins_perm j h.perm, ins_sorted hC j h.perm h.sorted hj (fun hp => ?_) h.gt, fun p hp => ?_, fun p hp => ?_⟩
  · rw [← h.low (j - 1) (by omega)]; exact hc hp
  · rw [ins_getD L j k p (by omega)]
    by_cases e1 : p < j
    · rw [if_pos e1, upd_other _ _ _ _ (by omega)]; exact h.low p e1
    · rw [if_neg e1]
      by_cases e2 : p = j
      · rw [if_pos e2, e2, upd_same]
      · rw [if_neg e2, upd_other _ _ _ _ e2]; exact h.mid p (by omega) (by omega)
  · rw [upd_other _ _ _ _ (by omega)]; exact h.high p (by omega)

theorem SrtAt.bound {C : Nat → Nat → Int} {k n : Nat} {M : Nat → Nat} {L : List Nat} (h : SrtAt C k M L) (hk : k ≤ n) (p : Nat) (hp : p < n) : M p < n := by
  by_cases e : p < k
  · rw [h.low p e]
    have hlen : L.length = k := by rw [h.perm.length_eq]; simp
    rw [List.getD_eq_getElem?_getD, List.getElem?_eq_getElem (by omega), Option.getD_some]
    have := h.perm.mem_iff.1 (List.getElem_mem (l := L) (n := p) (by omega))
    simp at this
    omega
  · rw [h.high p (by omega)]; exact hp

theorem SrtIn.bound {C : Nat → Nat → Int} {k n j : Nat} {M : Nat → Nat} {L : List Nat} (h : SrtIn C k j M L) (hk : k ≤ n) (hj : j ≤ k) (p : Nat) (hp : p < j) : M p < n := by
  rw [h.low p hp]
  have hlen : L.length = k := by rw [h.perm.length_eq]; simp
  rw [List.getD_eq_getElem?_getD, List.getElem?_eq_getElem (by omega), Option.getD_some]
  have := h.perm.mem_iff.1 (List.getElem_mem (l := L) (n := p) (by omega))
  simp at this
  omega

theorem Owns.setM {w : World} {e g n : Nat} {D : Nat → Value} {M : Nat → Nat} (h : Owns w e g n (fun p => D (M p))) (i v : Nat) : Owns (w.setCell ⟨g, i, none⟩ (D v)) e g n (fun p => D (upd M i v p)) := by
  refine (h.setCell i _).congr fun j _ => ?_
  by_cases hji : j = i <;> simp [hji, upd]

set_option maxHeartbeats 1000000 in
theorem sort_any (a0 : Option Addr) (n c0 : Nat) (ad : Nat → Option Addr) (ln cp : Nat → Nat) (fd : Nat → Nat → Nat) (w : World) (hn : n ≤ 1048576) (hr : RdV w a0 n (slv ad ln cp))
    (hF : ∀ i, i < n → ln i ≤ 9223372036854775807 ∧ Reads w (ad i) (ln i) (fd i)) (C : Nat → Nat → Int) (hC : C = fun i j => cmpF (ln i) (fd i) (ln j) (fd j)) :
    Calls Ydsm.prog 20 #[.slice a0 n c0] w fun e w' => SortOut w w' e n (slv ad ln cp) C := by
  have c3 : Hid (Cmp3 C) := by rw [hC]; exact cmpF_cmp3 ln fd
  have CMP : Hid (∀ i j wx, i < n → j < n → Below w.heap.size w wx → Calls Ydsm.prog 17 #[.slice (ad i) (ln i) (cp i), .slice (ad j) (ln j) (cp j)] wx fun e w' => e = .returned (.int .i64 (C i j)) ∧ Below wx.heap.size wx w') := by
    intro i j wx hi hj hb
    rw [hC]
    exact compare_any _ _ _ _ _ _ _ _ wx (by have := (hF i hi).1; omega) (by have := (hF j hj).1; omega) ((hF i hi).2.later hb) ((hF j hj).2.later hb)
  have C1 : Hid (∀ i j, -1 ≤ C i j ∧ C i j ≤ 1) := by
    intro i j
    rw [hC]
    have := cmpF_three (ln i) (fd i) (ln j) (fd j)
    simp only
    omega
  obtain ⟨ba, oa, ha, hA⟩ := hr
  have HA := mkHid hA
  have Ha := mkHid ha
  clear hF hC ha hA
  go_enter Ydsm.func20, Ydsm.ntmps20
  go_wp2_with (at_make; refine wpList_mk _ rfl _ _ 35 rfl 23 (.slice none 0 0) 24 Ydsm.underlying35 Ydsm.info23 rfl _ _ _ _ n rfl rfl (by omega) (by omega) (by omega) (by unfold maxLen; omega) ?_)
  intro w1 ho1 hb1
  have hpos2 : Hid (0 < n → a0 = some ⟨ba, oa, none⟩ ∧ ∀ j, j < n → w1.cell? ⟨ba, oa + j, none⟩ = some (slv ad ln cp j)) := by
    intro hp
    refine ⟨(Ha.out hp).1, fun j hj => ?_⟩
    rw [hb1.cell (p := ⟨ba, oa + j, none⟩) (Ha.out hp).2]
    exact HA.out j hj
  go_wp2_with (refine wpList_cp rfl (.tmp 10) (.tmp 11) 35 35 rfl 23 Ydsm.underlying35 Ydsm.info23s _ _ _ _ _ _ rfl rfl w.heap.size 0 n n _ (slv ad ln cp) ho1 (Nat.min_self _).symm (fun hp => ⟨rfl, ba, oa, (hpos2.out hp).1, (hpos2.out hp).2⟩) (by omega) (fun _ => rfl) ?_)
  intro w2 ho2 hb2
  have hc2 := hb1.trans hb2
  have ho3 : Owns w2 23 w.heap.size n (fun p => slv ad ln cp (id p)) := ho2.congr fun i hi => by rw [spl_in _ _ (by omega) (by omega)]; simp
  clear hpos2 ho1 ho2 hb1 hb2 HA Ha
  rcases Nat.eq_zero_or_pos n with rfl | hpos
  · go_wp2
    go_loopw [4] (fun i wr => i = .int .i64 1 ∧ wr = w2) (fun _ _ => 0)
    case atStart => exact ⟨rfl, rfl⟩
    case round =>
      obtain ⟨rfl, rfl⟩ := hrel
      go_wp2
      go_ret
      exact SortOut.make w.heap.size [] rfl (Nat.le_refl _) (ho3.congr fun i hi => by omega) (by simp) (by simp) hc2
  go_wp2
  go_loopw [4] (fun i wr => ∃ (k : Nat) (M : Nat → Nat) (L : List Nat), 1 ≤ k ∧ k ≤ n ∧ i = .int .i64 (k : Int) ∧ Hid (SrtAt C k M L) ∧ Owns wr 23 w.heap.size n (fun p => slv ad ln cp (M p)) ∧ Below w.heap.size w wr) (fun i _ => n - (intOf i).toNat)
  case atStart => exact ⟨1, id, [0], by omega, by omega, rfl, SrtAt.start, ho3, hc2⟩
  case round =>
    obtain ⟨k, M, L, hk1, hk2, rfl, hat, hown, hnx⟩ := hrel
    clear ho3 hc2
    by_cases hlt : k < n
    · have gk := hown.cell k hlt
      simp only [hat.out.high k (Nat.le_refl _)] at gk
      unfold slv at gk
      have t0 : (k : Int) < n := by omega
      have HI := mkHid hat.out.enter
      clear hat
      go_wp2
      go_loopw [6] (fun sj wr => ∃ (j : Nat) (M : Nat → Nat), j ≤ k ∧ sj = .int .i64 (j : Int) ∧ Hid (SrtIn C k j M L) ∧ Owns wr 23 w.heap.size n (fun p => slv ad ln cp (M p)) ∧ Below w.heap.size w wr) (fun sj _ => (intOf sj).toNat)
      case atStart => exact ⟨k, M, Nat.le_refl _, rfl, HI, hown, hnx⟩
      case round =>
        clear gk HI hown hnx
        obtain ⟨j, M, hj, rfl, hin, hown, hnx⟩ := hrel
        have cj := hown.cell j (by omega)
        have zj := hown.frozen j
        unfold slv at cj
        rcases Nat.eq_zero_or_pos j with rfl | hjp
        · have HST := mkHid (hown.setM 0 k)
          unfold slv at HST
          have HBS := mkHid (hnx.setCell (p := ⟨w.heap.size, 0, none⟩) (Nat.le_refl _) (slv ad ln cp k))
          unfold slv at HBS
          have HL := mkHid (hin.out.leave c3.out (by omega) (by intro h; omega))
          have j0 : (0 : Int) < n := by omega
          clear hin hown hnx CMP c3 C1
          go_wp2
          go_roundw
          case rel => exact ⟨k + 1, _, _, by omega, by omega, by go_num, HL, HST.out, HBS.out⟩
          case measure => simp [intOf]; omega
        · obtain ⟨s, rfl⟩ : ∃ s, j = s + 1 := ⟨j - 1, by omega⟩
          have cs := hown.cell s (by omega)
          unfold slv at cs
          have hms := hin.out.bound (n := n) (by omega) hj s (by omega)
          have t1 : (0 : Int) < ((s + 1 : Nat) : Int) := by omega
          have es : ((s + 1 : Nat) : Int) - 1 = (s : Int) := by omega
          have t2 : (s : Int) < n := by omega
          have t3 : ((s + 1 : Nat) : Int) < n := by omega
          obtain ⟨z, hz⟩ : ∃ z, C (M s) k = z := ⟨_, rfl⟩
          have hz1 : -1 ≤ z ∧ z ≤ 1 := by rw [← hz]; exact C1.out _ _
          obtain ⟨hz1, hz2⟩ := hz1
          have HZ := mkHid hz
          clear hz
          go_wp2_with fail
          refine (CMP.out (M s) k _ hms (by omega) hnx).mono ?_
          rw [HZ.out]
          rintro e w3 ⟨rfl, hb3⟩
          have hc3 := below_size hnx hb3
          replace hown := hown.later hb3
          have cs' := hown.cell s (by omega)
          have cj' := hown.cell (s + 1) (by omega)
          have zj' := hown.frozen (s + 1)
          unfold slv at cs' cj'
          by_cases hgo : 0 < z
          · have HST := mkHid (hown.setM (s + 1) (M s))
            unfold slv at HST
            have HBS := mkHid (hc3.setCell (p := ⟨w.heap.size, s + 1, none⟩) (Nat.le_refl _) (slv ad ln cp (M s)))
            unfold slv at HBS
            have HL := mkHid (hin.out.step (by omega) (by rw [HZ.out]; exact hgo))
            clear hin hown hnx CMP c3 C1 cj zj cs hb3 hc3 HZ
            go_wp2
            go_roundw
            case rel => exact ⟨s, _, by omega, by go_num, HL, HST.out, HBS.out⟩
            case measure => simp [intOf]
          · have HST := mkHid (hown.setM (s + 1) k)
            unfold slv at HST
            have HBS := mkHid (hc3.setCell (p := ⟨w.heap.size, s + 1, none⟩) (Nat.le_refl _) (slv ad ln cp k))
            unfold slv at HBS
            have HL := mkHid (hin.out.leave c3.out (by omega) (by intro h; simp only [Nat.add_sub_cancel]; rw [HZ.out]; omega))
            clear hin hown hnx CMP c3 C1 cj zj cs hb3 hc3 HZ
            go_wp2
            go_roundw
            case rel => exact ⟨k + 1, _, _, by omega, by omega, by go_num, HL, HST.out, HBS.out⟩
            case measure => simp [intOf]; omega
    · have t0 : ¬ (k : Int) < n := by omega
      obtain rfl : k = n := by omega
      have HR := mkHid (SortOut.make (e := .returned (.slice (some ⟨w.heap.size, 0, none⟩) k k)) w.heap.size L rfl (Nat.le_refl _) (hown.congr fun i hi => by rw [hat.out.low i hi]) hat.out.perm hat.out.sorted hnx)
      clear hat hown hnx CMP c3 C1
      go_wp2
      go_ret
      exact HR.out

end Go.Proofs.Ymbrds
