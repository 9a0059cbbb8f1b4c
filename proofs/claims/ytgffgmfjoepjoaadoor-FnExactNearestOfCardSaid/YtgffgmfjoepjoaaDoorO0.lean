/- Sets told by bits, as lists of their elements; relations and orders on at most ten elements. -/
import Derived.Test.YtgffgmfjoepjoaaDoorC1
set_option linter.unusedVariables false
set_option linter.unusedSimpArgs false
namespace Go.Proofs.YtgffgmfjoepjoaaDoor.M
open Go.RowKit Go.Proofs.YtgffgmfjoepjoaaDoorW.PrintWords
def bitsTo (x : Int) (k : Nat) : List Int := ((List.range k).filter fun i : Nat => has x i).map fun i : Nat => (i : Int)
/-- The elements of a set. -/
def bitsOf (x : Int) : List Int := bitsTo x 62
theorem bitsTo_yes {x : Int} {k : Nat} (h : has x k = true) : bitsTo x (k + 1) = bitsTo x k ++ [(k : Int)] := by simp [bitsTo, List.range_succ, List.filter_append, h]
theorem bitsTo_no {x : Int} {k : Nat} (h : has x k = false) : bitsTo x (k + 1) = bitsTo x k := by simp [bitsTo, List.range_succ, List.filter_append, h]
theorem bitsTo_up {x : Int} {k : Nat} : ∀ d, (∀ i : Nat, k ≤ i → has x i = false) → bitsTo x (k + d) = bitsTo x k
  | 0, _ => rfl
  | d + 1, h => by rw [← Nat.add_assoc, bitsTo_no (h _ (by omega)), bitsTo_up d h]
theorem bitsOf_eq {x : Int} {k : Nat} (hk : k ≤ 62) (h : ∀ i : Nat, k ≤ i → has x i = false) : bitsOf x = bitsTo x k := by
  have := bitsTo_up (62 - k) h
  rwa [show k + (62 - k) = 62 by omega] at this
theorem bitsTo_len (x : Int) (k : Nat) : (bitsTo x k).length ≤ k := by
  rw [bitsTo, List.length_map]
  exact Nat.le_trans (List.length_filter_le _ _) (by simp)
theorem mem_bitsTo {x j : Int} {k : Nat} : j ∈ bitsTo x k ↔ ∃ i : Nat, j = i ∧ i < k ∧ has x i = true := by
  simp only [bitsTo, List.mem_map, List.mem_filter, List.mem_range]
  constructor
  · rintro ⟨i, ⟨h1, h2⟩, rfl⟩; exact ⟨i, rfl, h1, h2⟩
  · rintro ⟨i, rfl, h1, h2⟩; exact ⟨i, ⟨h1, h2⟩, rfl⟩
theorem bitsOf_n {x : Int} {n : Nat} (hn : n ≤ 62) (hx : 0 ≤ x) (hx1 : x < 2 ^ n) : bitsOf x = bitsTo x n := bitsOf_eq hn (fun i hi => has_high hx hx1 hi)
theorem mem_bitsOf {x : Int} {n : Nat} (hn : n ≤ 62) (hx : 0 ≤ x) (hx1 : x < 2 ^ n) {j : Int} : j ∈ bitsOf x ↔ ∃ i : Nat, j = i ∧ i < n ∧ has x i = true := by rw [bitsOf_n hn hx hx1]; exact mem_bitsTo
/-- Two sets with the same elements. -/
theorem set_ext {x y : Int} {n : Nat} (hx : 0 ≤ x) (hx1 : x < 2 ^ n) (hy : 0 ≤ y) (hy1 : y < 2 ^ n) (h : ∀ i : Nat, i < n → has x i = has y i) : x = y := by
  obtain ⟨a, rfl⟩ := Int.eq_ofNat_of_zero_le hx
  obtain ⟨b, rfl⟩ := Int.eq_ofNat_of_zero_le hy
  have : a = b := by
    apply Nat.eq_of_testBit_eq
    intro i
    rw [← has_nat, ← has_nat]
    by_cases hi : i < n
    · exact h i hi
    · rw [has_high hx hx1 (by omega), has_high hy hy1 (by omega)]
  exact_mod_cast this
/-- The set of all i less than k for which p holds. -/
def setTo (p : Nat → Bool) : Nat → Int
  | 0 => 0
  | k + 1 => if p k then bits .or .i64 (setTo p k) (2 ^ k) else setTo p k
theorem setTo_spec (p : Nat → Bool) : ∀ k, k ≤ 62 → 0 ≤ setTo p k ∧ setTo p k < 2 ^ k ∧ ∀ i : Nat, has (setTo p k) i = (decide (i < k) && p i)
  | 0, _ => ⟨by simp [setTo], by simp [setTo], fun i => by rw [setTo, zero_set]; simp⟩
  | k + 1, hk => by
    obtain ⟨h1, h2, h3⟩ := setTo_spec p k (by omega)
    have h4 : (2 : Int) ^ k ≤ 2 ^ (k + 1) := by exact_mod_cast Nat.pow_le_pow_right (by decide) (by omega)
    rw [setTo]
    split
    · rename_i hp
      obtain ⟨a, b, c⟩ := or_set (n := k + 1) hk h1 (by omega) (one_set (n := k + 1) (k := k) (by omega)).1 (one_set (n := k + 1) (k := k) (by omega)).2.1
      refine ⟨a, b, fun i => ?_⟩
      rw [c, h3, (one_set (n := k + 1) (k := k) (by omega)).2.2]
      by_cases e : i = k
      · subst e; simp [hp]
      · simp [e, show (i < k + 1) = (i < k) by simp; omega]
    · rename_i hp
      refine ⟨h1, by omega, fun i => ?_⟩
      rw [h3]
      by_cases e : i = k
      · subst e; simp [hp]
      · simp [show (i < k + 1) = (i < k) by simp; omega]
theorem setTo_congr {p q : Nat → Bool} : ∀ k, (∀ i, i < k → p i = q i) → setTo p k = setTo q k
  | 0, _ => rfl
  | k + 1, h => by rw [setTo, setTo, h k (by omega), setTo_congr k (fun i hi => h i (by omega))]
/-! relations -/
def relB (s : Int) (l : List Int) : Bool := inR s 0 10 && (decide ((l.length : Int) = s) && allIn l 0 (2 ^ s.toNat - 1))
structure VO (l : List Int) : Prop where
  l10 : l.length ≤ 10
  m0 : ∀ x ∈ l, 0 ≤ x
  mn : ∀ x ∈ l, x < 2 ^ l.length
theorem rel_VO {s : Int} {l : List Int} (h : relB s l = true) : s = l.length ∧ VO l := by
  simp only [relB, inR, allIn, Bool.and_eq_true, decide_eq_true_eq, List.all_eq_true] at h
  obtain ⟨⟨h1, h2⟩, h5, h6⟩ := h
  refine ⟨h5.symm, by omega, fun x hx => (h6 x hx).1, fun x hx => ?_⟩
  have := (h6 x hx).2
  rw [← h5, Int.toNat_natCast] at this
  omega
theorem VO_rel {l : List Int} (h : VO l) : relB l.length l = true := by
  have := h.l10
  simp only [relB, inR, allIn, Bool.and_eq_true, decide_eq_true_eq, List.all_eq_true]
  exact ⟨⟨by omega, by omega⟩, trivial, fun x hx => ⟨h.m0 x hx, by rw [Int.toNat_natCast]; have := h.mn x hx; omega⟩⟩
theorem VO.rd {l : List Int} (h : VO l) {i : Nat} (hi : i < l.length) : 0 ≤ rd l i ∧ rd l i < 2 ^ l.length ∧ rd l i < 1024 := by
  have hm := rd_mem (l := l) (i := (i : Int)) (by omega) (by omega)
  have h1 := h.mn _ hm
  have h2 : (2 : Int) ^ l.length ≤ 2 ^ 10 := by exact_mod_cast Nat.pow_le_pow_right (by decide) h.l10
  exact ⟨h.m0 _ hm, h1, by omega⟩
/-- j is better than i. -/
def bet (l : List Int) (i j : Nat) : Bool := has (rd l i) j
theorem bet_lt {l : List Int} (h : VO l) {i j : Nat} (hi : i < l.length) (hb : bet l i j = true) : j < l.length := by
  rcases Nat.lt_or_ge j l.length with h1 | h1
  · exact h1
  · rw [bet, has_high (h.rd hi).1 (h.rd hi).2.1 h1] at hb; cases hb
def subB (x y : Int) : Bool := decide (bits .andNot .i64 x y = 0)
theorem subB_iff {x y : Int} {n : Nat} (hn : n ≤ 62) (hx : 0 ≤ x) (hx1 : x < 2 ^ n) (hy : 0 ≤ y) (hy1 : y < 2 ^ n) : subB x y = true ↔ ∀ i : Nat, has x i = true → has y i = true := by
  obtain ⟨a, b, c⟩ := not_set hn hx hx1 hy hy1
  rw [subB, decide_eq_true_eq, set_zero a b]
  constructor
  · intro h i hi
    by_cases hin : i < n
    · have := h i hin
      rw [c, hi] at this
      simpa using this
    · rw [has_high hx hx1 (by omega)] at hi; cases hi
  · intro h i _
    rw [c]
    cases h1 : has x i
    · rfl
    · rw [h i h1]; rfl
def ordAt (l : List Int) (i : Nat) : Bool := !has (rd l i) i && (bitsOf (rd l i)).all fun j => subB (rd l j) (rd l i)
/-- A relation is an order. -/
def ordB (s : Int) (l : List Int) : Bool := relB s l && (List.range l.length).all fun i => ordAt l i
structure IsOrd (l : List Int) : Prop where
  vo : VO l
  irr : ∀ i, i < l.length → bet l i i = false
  tr : ∀ i j k, i < l.length → bet l i j = true → bet l j k = true → bet l i k = true
theorem ord_IsOrd {s : Int} {l : List Int} (h : ordB s l = true) : s = l.length ∧ IsOrd l := by
  rw [ordB, Bool.and_eq_true, List.all_eq_true] at h
  obtain ⟨h1, h2⟩ := rel_VO h.1
  refine ⟨h1, h2, fun i hi => ?_, fun i j k hi hij hjk => ?_⟩
  · have := h.2 i (by simpa using hi)
    rw [ordAt, Bool.and_eq_true] at this
    rw [bet]
    simpa using this.1
  · have := h.2 i (by simpa using hi)
    rw [ordAt, Bool.and_eq_true, List.all_eq_true] at this
    have hj := bet_lt h2 hi hij
    have h3 := this.2 j ((mem_bitsOf (n := l.length) (by have := h2.l10; omega) (h2.rd hi).1 (h2.rd hi).2.1).2 ⟨j, rfl, hj, hij⟩)
    exact (subB_iff (n := l.length) (by have := h2.l10; omega) (h2.rd hj).1 (h2.rd hj).2.1 (h2.rd hi).1 (h2.rd hi).2.1).1 h3 k hjk
theorem IsOrd_ord {l : List Int} (h : IsOrd l) : ordB l.length l = true := by
  rw [ordB, Bool.and_eq_true, List.all_eq_true]
  refine ⟨VO_rel h.vo, fun i hi => ?_⟩
  have hi := List.mem_range.1 hi
  rw [ordAt, Bool.and_eq_true, List.all_eq_true]
  refine ⟨by have := h.irr i hi; rw [bet] at this; rw [this]; rfl, fun j hj => ?_⟩
  obtain ⟨q, rfl, hq, hb⟩ := (mem_bitsOf (n := l.length) (by have := h.vo.l10; omega) (h.vo.rd hi).1 (h.vo.rd hi).2.1).1 hj
  exact (subB_iff (n := l.length) (by have := h.vo.l10; omega) (h.vo.rd hq).1 (h.vo.rd hq).2.1 (h.vo.rd hi).1 (h.vo.rd hi).2.1).2 (fun k hk => h.tr i q k hi hb hk)
/-! below, indifferent -/
def belS (l : List Int) (i : Nat) : Int := setTo (fun j => bet l j i) l.length
theorem belS_spec {l : List Int} (h : VO l) (i : Nat) : 0 ≤ belS l i ∧ belS l i < 2 ^ l.length ∧ ∀ j : Nat, has (belS l i) j = (decide (j < l.length) && bet l j i) := setTo_spec _ _ (by have := h.l10; omega)
/-- Indifferent to i, as the program reckons it. -/
def near (l : List Int) (i : Nat) : Int := bits .andNot .i64 (bits .andNot .i64 (bits .andNot .i64 (2 ^ l.length - 1) (rd l i)) (belS l i)) (2 ^ i)
/-- Indifferent to i, as the reference reckons it. -/
def nearS (l : List Int) (i : Nat) : Int := bits .andNot .i64 (2 ^ l.length - 1) (bits .or .i64 (bits .or .i64 (rd l i) (belS l i)) (2 ^ i))
theorem all_set {n : Nat} (hn : n ≤ 62) : 0 ≤ (2 : Int) ^ n - 1 ∧ (2 : Int) ^ n - 1 < 2 ^ n ∧ ∀ i : Nat, has ((2 : Int) ^ n - 1) i = decide (i < n) := by
  have h : (2 : Int) ^ n - 1 = ((2 ^ n - 1 : Nat) : Int) := by
    have : 1 ≤ 2 ^ n := Nat.one_le_two_pow
    rw [Int.natCast_sub this]
    simp
  have h1 : 1 ≤ 2 ^ n := Nat.one_le_two_pow
  refine ⟨by rw [h]; exact Int.natCast_nonneg _, by omega, fun i => ?_⟩
  rw [h, has_nat, Nat.testBit_two_pow_sub_one]
theorem near_spec {l : List Int} (h : VO l) {i : Nat} (hi : i < l.length) : 0 ≤ near l i ∧ near l i < 2 ^ l.length ∧ ∀ j : Nat, has (near l i) j = (decide (j < l.length) && (!bet l i j && (!bet l j i && decide (j ≠ i)))) := by
  have hn : l.length ≤ 62 := by have := h.l10; omega
  obtain ⟨a0, a1, a2⟩ := all_set hn
  obtain ⟨b0, b1, b2⟩ := not_set hn a0 a1 (h.rd hi).1 (h.rd hi).2.1
  obtain ⟨c0, c1, c2⟩ := belS_spec h i
  obtain ⟨d0, d1, d2⟩ := not_set hn b0 b1 c0 c1
  obtain ⟨e0, e1, e2⟩ := one_set hi
  obtain ⟨f0, f1, f2⟩ := not_set hn d0 d1 e0 e1
  refine ⟨f0, f1, fun j => ?_⟩
  rw [near, f2, d2, b2, a2, c2, e2, ← bet]
  by_cases h1 : j < l.length
  · simp [h1, Bool.and_assoc]
  · simp [h1]
theorem nearS_eq {l : List Int} (h : VO l) {i : Nat} (hi : i < l.length) : nearS l i = near l i := by
  have hn : l.length ≤ 62 := by have := h.l10; omega
  obtain ⟨a0, a1, a2⟩ := all_set hn
  obtain ⟨c0, c1, c2⟩ := belS_spec h i
  obtain ⟨e0, e1, e2⟩ := one_set hi
  obtain ⟨b0, b1, b2⟩ := or_set hn (h.rd hi).1 (h.rd hi).2.1 c0 c1
  obtain ⟨d0, d1, d2⟩ := or_set hn b0 b1 e0 e1
  obtain ⟨f0, f1, f2⟩ := not_set hn a0 a1 d0 d1
  obtain ⟨g0, g1, g2⟩ := near_spec h hi
  refine set_ext f0 f1 g0 g1 (fun j hj => ?_)
  rw [nearS, f2, a2, d2, b2, c2, e2, g2, ← bet]
  simp [hj, Bool.and_assoc]
end Go.Proofs.YtgffgmfjoepjoaaDoor.M
