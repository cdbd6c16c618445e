import Derived.WalkKit
import Derived.BigQuiet
import Derived.Laws.CopyOwn
import Derived.OpenShut
import Derived.Test.YmbrdsPlain
namespace Go.Proofs.Ymbrds
open Go.RowKit

theorem mkHid {p : Prop} (h : p) : Hid p := h

def Reads (w : World) (a : Option Addr) (n : Nat) (f : Nat → Nat) : Prop :=
  ∃ b o, (0 < n → a = some ⟨b, o, none⟩ ∧ b < w.heap.size) ∧ ∀ i, i < n → w.cell? ⟨b, o + i, none⟩ = some (.int .u8 (f i : Int))

def Owns (w : World) (e g n : Nat) (F : Nat → Value) : Prop :=
  ∃ cur, w.heap[g]? = some (.cells cur e (0, 0)) ∧ n ≤ cur.size ∧ ∀ i, i < n → cur[i]? = some (F i)

def by8 (f : Nat → Nat) : Nat → Value := fun i => .int .u8 (f i : Int)

theorem Owns.lt {w : World} {e g n : Nat} {F : Nat → Value} (h : Owns w e g n F) : g < w.heap.size := by
  obtain ⟨cur, hg, _⟩ := h
  exact (Array.getElem?_eq_some_iff.1 hg).1

theorem Owns.cell {w : World} {e g n : Nat} {F : Nat → Value} (h : Owns w e g n F) (i : Nat) (hi : i < n) : w.cell? ⟨g, i, none⟩ = some (F i) := by
  obtain ⟨cur, hg, _, hc⟩ := h
  rw [cell_of_row w g i cur e (0, 0) hg, hc i hi]

theorem Owns.frozen {w : World} {e g n : Nat} {F : Nat → Value} (h : Owns w e g n F) (i : Nat) : w.frozen? ⟨g, i, none⟩ = false := by
  obtain ⟨cur, hg, _, _⟩ := h
  exact frozen_of_row w g i cur e hg

theorem Owns.congr {w : World} {e g n : Nat} {F G : Nat → Value} (h : Owns w e g n F) (hFG : ∀ i, i < n → F i = G i) : Owns w e g n G := by
  obtain ⟨cur, hg, hs, hc⟩ := h
  exact ⟨cur, hg, hs, fun i hi => by rw [hc i hi, hFG i hi]⟩

theorem Owns.less {w : World} {e g n m : Nat} {F : Nat → Value} (h : Owns w e g n F) (hm : m ≤ n) : Owns w e g m F := by
  obtain ⟨cur, hg, hs, hc⟩ := h
  exact ⟨cur, hg, by omega, fun i hi => hc i (by omega)⟩

theorem Owns.below {w w' : World} {e g n B : Nat} {F : Nat → Value} (h : Owns w e g n F) (hb : Below B w w') (hg : g < B) : Owns w' e g n F := by
  obtain ⟨cur, hgg, hs, hc⟩ := h
  exact ⟨cur, by rw [hb.block g hg]; exact hgg, hs, hc⟩

theorem Owns.later {w w' : World} {e g n : Nat} {F : Nat → Value} (h : Owns w e g n F) (hb : Below w.heap.size w w') : Owns w' e g n F := h.below hb h.lt

theorem Owns.drewN {w : World} {e g n : Nat} {F : Nat → Value} (h : Owns w e g n F) (q : Nat) : Owns (w.drewN q) e g n F := h

theorem Owns.setCell {w : World} {e g n : Nat} {F : Nat → Value} (h : Owns w e g n F) (i : Nat) (v : Value) : Owns (w.setCell ⟨g, i, none⟩ v) e g n (fun j => if j = i then v else F j) := by
  obtain ⟨cur, hg, hs, hc⟩ := h
  refine ⟨cur.setIfInBounds i v, heap_setCell_same w g i cur e v hg, by simpa using hs, fun j hj => ?_⟩
  by_cases hji : j = i
  · subst hji
    simp [show j < cur.size by omega]
  · rw [Array.getElem?_setIfInBounds_ne (fun e => hji e.symm), hc j hj]; simp [hji]

theorem Owns.set8 {w : World} {e g n : Nat} {f : Nat → Nat} (h : Owns w e g n (by8 f)) (i v : Nat) : Owns (w.setCell ⟨g, i, none⟩ (.int .u8 (v : Int))) e g n (by8 (upd f i v)) := by
  refine (h.setCell i _).congr fun j _ => ?_
  by_cases hji : j = i <;> simp [hji, by8, upd]

theorem Owns.otherCell {w : World} {e g n : Nat} {F : Nat → Value} (h : Owns w e g n F) (a : Addr) (v : Value) (hne : g ≠ a.block) : Owns (w.setCell a v) e g n F := by
  obtain ⟨cur, hg, hs, hc⟩ := h
  exact ⟨cur, by rw [heap_setCell_other w a g v hne]; exact hg, hs, hc⟩

theorem Owns.reads {w : World} {e g n : Nat} {f : Nat → Nat} (h : Owns w e g n (by8 f)) : Reads w (some ⟨g, 0, none⟩) n f :=
  ⟨g, 0, fun _ => ⟨rfl, h.lt⟩, fun i hi => by rw [Nat.zero_add]; exact h.cell i hi⟩

theorem Reads.later {w w' : World} {a : Option Addr} {n : Nat} {f : Nat → Nat} (h : Reads w a n f) (hb : Below w.heap.size w w') : Reads w' a n f := by
  obtain ⟨b, o, ha, hc⟩ := h
  refine ⟨b, o, fun hn => ⟨(ha hn).1, Nat.lt_of_lt_of_le (ha hn).2 hb.size⟩, fun i hi => ?_⟩
  rw [hb.cell (p := ⟨b, o + i, none⟩) (ha (by omega)).2]
  exact hc i hi

theorem Reads.nil (w : World) (a : Option Addr) (f : Nat → Nat) : Reads w a 0 f := ⟨0, 0, fun h => by omega, fun i hi => by omega⟩

theorem Reads.congr {w : World} {a : Option Addr} {n : Nat} {f g : Nat → Nat} (h : Reads w a n f) (hfg : ∀ i, i < n → f i = g i) : Reads w a n g := by
  obtain ⟨b, o, ha, hc⟩ := h
  exact ⟨b, o, ha, fun i hi => by rw [hc i hi, hfg i hi]⟩

theorem Reads.less {w : World} {a : Option Addr} {n m : Nat} {f : Nat → Nat} (h : Reads w a n f) (hm : m ≤ n) : Reads w a m f := by
  obtain ⟨b, o, ha, hc⟩ := h
  exact ⟨b, o, fun hn => ha (by omega), fun i hi => hc i (by omega)⟩

theorem owns_of_row {w : World} {base e g n cap : Nat} {xs : List Value} {F : Nat → Value} (h : w.ownsRow base e 1 (.slice (some ⟨g, 0, none⟩) n cap) n xs) (hF : ∀ i, i < n → xs[i]? = some (F i)) : Owns w e g n F := by
  rcases h.2 with ⟨h', _⟩ | ⟨g', cap', cur, h', _, hg, hnc, _, hs, ht⟩
  · simp at h'
  · simp only [Value.slice.injEq, Option.some.injEq, Addr.mk.injEq, and_true, true_and] at h'
    obtain ⟨rfl, rfl⟩ := h'
    refine ⟨cur, hg, by omega, fun i hi => ?_⟩
    rw [← hF i hi, ← ht, List.getElem?_take, if_pos (by omega)]
    simp

theorem bdrew {B : Nat} {a w : World} (h : Below B a w) (n : Nat) : Below B a (w.drewN n) := h.trans ⟨rfl, rfl, rfl, Nat.le_refl _, fun _ _ => rfl⟩

theorem ret_i {k : IntKind} {a b : Int} (h : a = b) : Ending.returned (.int k a) = .returned (.int k b) := by rw [h]

theorem ret_b {a b : Bool} (h : a = b) : Ending.returned (.bool a) = .returned (.bool b) := by rw [h]

theorem below_later {w w1 w2 : World} {B : Nat} (h : Below B w w1) (h2 : Below w1.heap.size w1 w2) (hB : B ≤ w1.heap.size) : Below B w w2 := h.trans (h2.mono hB)

theorem below_size {w w1 w2 : World} (h : Below w.heap.size w w1) (h2 : Below w1.heap.size w1 w2) : Below w.heap.size w w2 := h.trans (h2.mono h.size)

theorem reads_of {w : World} {a : Option Addr} {len cap : Nat} {zs : List Int}
    (h : (a = none ∧ len = 0 ∧ cap = 0 ∧ zs = []) ∨ ∃ x, a = some x ∧ len ≤ cap ∧ cap ≤ maxLen ∧ zs.length = cap ∧ (∀ i, i < zs.length → w.cell? (x.add i) = some (.int .u8 (zs.getD i 0))) ∧ ∀ n ∈ zs, (Lit.int .u8 n).wf = true) :
    ∃ f, Reads w a len f ∧ (∀ j, f j ≤ 255) ∧ len ≤ cap ∧ cap ≤ 9223372036854775807 := by
  rcases h with ⟨rfl, rfl, rfl, rfl⟩ | ⟨⟨b, o, spot⟩, rfl, hl, hm, hz, hc, hw⟩
  · exact ⟨fun _ => 0, Reads.nil _ _ _, fun _ => by simp, Nat.le_refl _, by omega⟩
  · have hb : ∀ j, 0 ≤ zs.getD j 0 ∧ zs.getD j 0 ≤ 255 := by
      intro j
      by_cases hj : j < zs.length
      · have h2 := hw (zs.getD j 0) (by simp [List.getD, hj])
        exact bounds_u8 h2
      · simp [List.getD, List.getElem?_eq_none (Nat.le_of_not_lt hj)]
    refine ⟨fun j => (zs.getD j 0).toNat, ⟨b, o, fun hn => ?_, fun i hi => ?_⟩, fun j => ?_, hl, by unfold maxLen at hm; exact hm⟩
    · have h0 := hc 0 (by omega)
      have hspot : spot = none := by simpa [Addr.add] using World.cell?_spot h0
      subst hspot
      exact ⟨rfl, World.block_lt_of_cell? w _ h0⟩
    · have h0 := hc i (by omega)
      have hspot : spot = none := by simpa [Addr.add] using World.cell?_spot (hc 0 (by omega))
      subst hspot
      rw [Addr.add_lit] at h0
      rw [h0, Int.toNat_of_nonneg (hb i).1]
    · show (zs.getD j 0).toNat ≤ 255
      have := hb j
      omega

theorem nat_u64 {a : Int} (h : (Lit.int .u64 a).wf = true) : ∃ x : Nat, a = (x : Int) ∧ x ≤ 18446744073709551615 := by
  have h2 : 0 ≤ a ∧ a ≤ 18446744073709551615 := bounds_u64 h
  exact ⟨a.toNat, by omega, by omega⟩

theorem nat_u32 {a : Int} (h : (Lit.int .u32 a).wf = true) : ∃ x : Nat, a = (x : Int) ∧ x ≤ 4294967295 := by
  have h2 : 0 ≤ a ∧ a ≤ 4294967295 := bounds_u32 h
  exact ⟨a.toNat, by omega, by omega⟩

theorem nat_u8 {a : Int} (h : (Lit.int .u8 a).wf = true) : ∃ x : Nat, a = (x : Int) ∧ x ≤ 255 := by
  have h2 : 0 ≤ a ∧ a ≤ 255 := bounds_u8 h
  exact ⟨a.toNat, by omega, by omega⟩

theorem int_i64 {a : Int} (h : (Lit.int .i64 a).wf = true) : -9223372036854775808 ≤ a ∧ a ≤ 9223372036854775807 := by
  exact bounds_i64 h

theorem wpList_mk {P : Program} (w : World) {ops : Array Oper} {rest : List Oper} {o : Oper} {a : Act} {Q : Exit → Act → World → Prop}
    (hg : o.guard = none) (l c : Operand) (t : TypeId) (hop : o.op = Op.makeSlice t l c) (e : TypeId) (z : Value) (by_ : Nat)
    (h1 : P.underlying t = some (.slice e)) (h2 : (P.info? e).map (fun i => (i.zero, i.size, i.bytes)) = some (some z, 1, by_)) (hz : z.cells = #[z])
    (kl kc : IntKind) (L C : Int) (n : Nat) (hl : a.eval l = .int kl L) (hc : a.eval c = .int kc C) (hL : L = (n : Int)) (hC : C = (n : Int)) (b2 : by_ * n ≤ 281474976710656) (b3 : n ≤ maxLen)
    (hK : ∀ w', Owns w' e w.heap.size n (fun _ => z) → Below w.heap.size w w' → wpList P ops Q rest (a.put o.dst (.slice (some ⟨w.heap.size, 0, none⟩) n n)) w') :
    wpList P ops Q (o :: rest) a w := by
  obtain ⟨i, hi, hz0, hz1, hz2⟩ := info_parts h2
  refine wpList_make_full w hg l c t hop w.heap.size e i z 1 h1 hi hz0 hz1 kl kc L C n hl hc hL hC (by rw [hz2]; exact b2) b3 (Nat.le_refl _) fun w' ho hgr => ?_
  refine hK w' (owns_of_row ho fun j hj => ?_) ((Below.refl _ _).grown hgr (Nat.le_refl _) (fun k h => by cases h))
  rw [hz, Nat.mul_one, toList_madeCells_one]
  simp [hj]

def spl (off m : Nat) (G F : Nat → Value) : Nat → Value := fun i => if off ≤ i ∧ i < off + m then G (i - off) else F i

theorem spl_in {off m i : Nat} (G F : Nat → Value) (h1 : off ≤ i) (h2 : i < off + m) : spl off m G F i = G (i - off) := by
  unfold spl; rw [if_pos ⟨h1, h2⟩]

theorem spl_out {off m i : Nat} (G F : Nat → Value) (h : i < off ∨ off + m ≤ i) : spl off m G F i = F i := by
  unfold spl; rw [if_neg (by omega)]

theorem wpList_cp {P : Program} {w : World} {ops : Array Oper} {rest : List Oper} {o : Oper} {a : Act} {Q : Exit → Act → World → Prop} (hgd : o.guard = none) (d s : Operand) (dT sT : TypeId)
    (ho : o.op = .call { callee := .builtin .copy, args := #[d, s], argTypes := #[dT, sT] }) (e : TypeId) (hu : P.underlying dT = some (.slice e)) (hsz : (P.info? e).map (·.size) = some 1)
    (dp sp : Option Addr) (dLen dCap sLen sCap : Nat) (hd : a.eval d = .slice dp dLen dCap) (hs : a.eval s = .slice sp sLen sCap)
    (g off n m : Nat) (F G : Nat → Value) (hown : Owns w e g n F) (hm : m = Nat.min sLen dLen)
    (hpos : 0 < m → dp = some ⟨g, off, none⟩ ∧ ∃ b oo, sp = some ⟨b, oo, none⟩ ∧ ∀ j, j < m → w.cell? ⟨b, oo + j, none⟩ = some (G j))
    (hfit : off + m ≤ n) (h1 : ∀ j, (G j).oneCell' = true)
    (h : ∀ w', Owns w' e g n (spl off m G F) → Below g w w' → wpList P ops Q rest (a.put o.dst (goInt m)) w') :
    wpList P ops Q (o :: rest) a w := by
  obtain ⟨cur, hg, hsz', hcur⟩ := hown
  have hl : ((List.range m).map G).length = m := by simp
  refine wpList_copy_splice hgd d s dT sT ho e hu hsz dp sp dLen dCap sLen sCap hd hs g off cur.toList e (by simpa using hg) ((List.range m).map G) (by rw [hl, hm]) (fun hp => ?_) (by rw [hl]; simp; omega) (by simp [h1]) g w (Below.refl _ _) (Nat.le_refl _) (fun w' hw' hb' => ?_)
  · rw [hl] at hp
    obtain ⟨hdp, b, oo, hsp, hc⟩ := hpos hp
    refine ⟨hdp, ⟨b, oo, none⟩, hsp, fun j v hj => ?_⟩
    have hjm : j < m := by
      have := (List.getElem?_eq_some_iff.1 hj).1
      simpa using this
    rw [Addr.add_lit, hc j hjm]
    simpa [hjm] using hj
  · rw [hl]
    refine h w' ⟨_, hw'.out, by rw [List.size_toArray, length_splice _ _ _ (by simp; omega)]; simpa using hsz', fun i hi => ?_⟩ hb'
    simp only [List.getElem?_toArray, splice, hl]
    by_cases h1' : i < off
    · rw [List.getElem?_append_left (by simp; omega), List.getElem?_take, if_pos h1', spl_out G F (.inl h1')]
      simpa using hcur i hi
    · rw [List.getElem?_append_right (by simp; omega)]
      have e1 : (List.take off cur.toList).length = off := by simp; omega
      rw [e1]
      by_cases h2 : i < off + m
      · rw [List.getElem?_append_left (by simp; omega), spl_in G F (by omega) h2]
        simp [show i - off < m by omega]
      · rw [List.getElem?_append_right (by simp; omega), spl_out G F (.inr (by omega))]
        simp only [hl, List.getElem?_drop]
        rw [show off + m + (i - off - m) = i by omega]
        simpa using hcur i hi

end Go.Proofs.Ymbrds
