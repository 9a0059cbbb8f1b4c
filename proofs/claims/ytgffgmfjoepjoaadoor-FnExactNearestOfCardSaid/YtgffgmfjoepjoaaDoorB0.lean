/- Sets of small numbers told by the bits of an int. -/
import Derived.Test.YtgffgmfjoepjoaaDoorA0
set_option linter.unusedVariables false
set_option linter.unusedSimpArgs false
namespace Go.Proofs.YtgffgmfjoepjoaaDoor.M
open Go.RowKit Go.Proofs.YtgffgmfjoepjoaaDoorW.PrintWords
def has (x i : Int) : Bool := (x / 2 ^ i.toNat) % 2 == 1
theorem has_nat (a i : Nat) : has (a : Int) (i : Int) = a.testBit i := by
  rw [Nat.testBit_eq_decide_div_mod_eq, has, Int.toNat_natCast]
  have h : ((a : Int) / 2 ^ i) % 2 = ((a / 2 ^ i % 2 : Nat) : Int) := by simp
  rw [h, Bool.eq_iff_iff]
  simp
  omega
theorem wraps62 (n : Int) (h0 : 0 ≤ n) (h1 : n < 2 ^ 62) : IntKind.i64.wrap n = n := by rw [IntKind.wrap_i64]; omega
theorem bits_or62 (a b : Nat) (ha : a < 2 ^ 62) (hb : b < 2 ^ 62) : bits .or .i64 a b = ((a ||| b : Nat) : Int) := (bits_nat .i64 62 (by decide) wraps62 a b ha hb).2
theorem bits_and62 (a b : Nat) (ha : a < 2 ^ 62) (hb : b < 2 ^ 62) : bits .and .i64 a b = ((a &&& b : Nat) : Int) := (bits_nat .i64 62 (by decide) wraps62 a b ha hb).1
theorem bits_andNot62 (a b : Nat) (ha : a < 2 ^ 62) (hb : b < 2 ^ 62) : ∃ c : Nat, bits .andNot .i64 a b = (c : Int) ∧ c ≤ a ∧ ∀ i, c.testBit i = (a.testBit i && !b.testBit i) := by
  have hp : (2 : Nat) ^ 62 ≤ 2 ^ IntKind.i64.bits := Nat.pow_le_pow_right (by decide) (by decide)
  have ha' : a % 2 ^ IntKind.i64.bits = a := Nat.mod_eq_of_lt (Nat.lt_of_lt_of_le ha hp)
  have hb' : b % 2 ^ IntKind.i64.bits = b := Nat.mod_eq_of_lt (Nat.lt_of_lt_of_le hb hp)
  refine ⟨(BitVec.ofNat IntKind.i64.bits a &&& ~~~ BitVec.ofNat IntKind.i64.bits b).toNat, ?_, ?_, fun i => ?_⟩
  · simp only [bits, BitVec.ofInt_natCast]
    refine wraps62 _ (Int.natCast_nonneg _) ?_
    have h1 : (BitVec.ofNat IntKind.i64.bits a &&& ~~~ BitVec.ofNat IntKind.i64.bits b).toNat ≤ a := by
      rw [BitVec.toNat_and, BitVec.toNat_ofNat, ha']
      exact Nat.and_le_left
    omega
  · rw [BitVec.toNat_and, BitVec.toNat_ofNat, ha']
    exact Nat.and_le_left
  · rw [BitVec.toNat_and, Nat.testBit_and, BitVec.toNat_ofNat, ha']
    by_cases hi : i < IntKind.i64.bits
    · congr 1
      have h2 : (~~~ BitVec.ofNat IntKind.i64.bits b).toNat.testBit i = (~~~ BitVec.ofNat IntKind.i64.bits b).getLsbD i := rfl
      rw [h2, BitVec.getLsbD_not, BitVec.getLsbD_ofNat]
      simp [hi]
    · have h3 : a.testBit i = false := Nat.testBit_lt_two_pow (Nat.lt_of_lt_of_le (Nat.lt_of_lt_of_le ha hp) (Nat.pow_le_pow_right (by decide) (by omega)))
      rw [h3]
      simp
/-- A set: an int that is not negative and below 2 ^ n. -/
theorem or_set {x y : Int} {n : Nat} (hn : n ≤ 62) (hx : 0 ≤ x) (hx1 : x < 2 ^ n) (hy : 0 ≤ y) (hy1 : y < 2 ^ n) : 0 ≤ bits .or .i64 x y ∧ bits .or .i64 x y < 2 ^ n ∧ ∀ i : Nat, has (bits .or .i64 x y) i = (has x i || has y i) := by
  obtain ⟨a, rfl⟩ := Int.eq_ofNat_of_zero_le hx
  obtain ⟨b, rfl⟩ := Int.eq_ofNat_of_zero_le hy
  have ha : a < 2 ^ n := by exact_mod_cast hx1
  have hb : b < 2 ^ n := by exact_mod_cast hy1
  have h62 : (2 : Nat) ^ n ≤ 2 ^ 62 := Nat.pow_le_pow_right (by decide) hn
  rw [bits_or62 a b (by omega) (by omega)]
  exact ⟨Int.natCast_nonneg _, by exact_mod_cast Nat.or_lt_two_pow ha hb, fun i => by rw [has_nat, has_nat, has_nat, Nat.testBit_or]⟩
theorem and_set {x y : Int} {n : Nat} (hn : n ≤ 62) (hx : 0 ≤ x) (hx1 : x < 2 ^ n) (hy : 0 ≤ y) (hy1 : y < 2 ^ n) : 0 ≤ bits .and .i64 x y ∧ bits .and .i64 x y < 2 ^ n ∧ ∀ i : Nat, has (bits .and .i64 x y) i = (has x i && has y i) := by
  obtain ⟨a, rfl⟩ := Int.eq_ofNat_of_zero_le hx
  obtain ⟨b, rfl⟩ := Int.eq_ofNat_of_zero_le hy
  have ha : a < 2 ^ n := by exact_mod_cast hx1
  have hb : b < 2 ^ n := by exact_mod_cast hy1
  have h62 : (2 : Nat) ^ n ≤ 2 ^ 62 := Nat.pow_le_pow_right (by decide) hn
  rw [bits_and62 a b (by omega) (by omega)]
  exact ⟨Int.natCast_nonneg _, by exact_mod_cast Nat.and_lt_two_pow _ hb, fun i => by rw [has_nat, has_nat, has_nat, Nat.testBit_and]⟩
theorem not_set {x y : Int} {n : Nat} (hn : n ≤ 62) (hx : 0 ≤ x) (hx1 : x < 2 ^ n) (hy : 0 ≤ y) (hy1 : y < 2 ^ n) : 0 ≤ bits .andNot .i64 x y ∧ bits .andNot .i64 x y < 2 ^ n ∧ ∀ i : Nat, has (bits .andNot .i64 x y) i = (has x i && !has y i) := by
  obtain ⟨a, rfl⟩ := Int.eq_ofNat_of_zero_le hx
  obtain ⟨b, rfl⟩ := Int.eq_ofNat_of_zero_le hy
  have ha : a < 2 ^ n := by exact_mod_cast hx1
  have hb : b < 2 ^ n := by exact_mod_cast hy1
  have h62 : (2 : Nat) ^ n ≤ 2 ^ 62 := Nat.pow_le_pow_right (by decide) hn
  obtain ⟨c, hc, hl, ht⟩ := bits_andNot62 a b (by omega) (by omega)
  rw [hc]
  exact ⟨Int.natCast_nonneg _, by exact_mod_cast (show c < 2 ^ n by omega), fun i => by rw [has_nat, has_nat, has_nat, ht]⟩
theorem one_set {k n : Nat} (h : k < n) : 0 ≤ (2 : Int) ^ k ∧ (2 : Int) ^ k < 2 ^ n ∧ ∀ i : Nat, has (2 ^ k) i = decide (i = k) := by
  have hc : (2 : Int) ^ k = ((2 ^ k : Nat) : Int) := by simp
  refine ⟨by rw [hc]; exact Int.natCast_nonneg _, by exact_mod_cast Nat.pow_lt_pow_right (by decide) h, fun i => ?_⟩
  rw [hc, has_nat, Nat.testBit_two_pow, Bool.eq_iff_iff]
  simp [eq_comm]
theorem zero_set (i : Nat) : has 0 i = false := by have := has_nat 0 i; simpa using this
theorem set_zero {x : Int} {n : Nat} (hx : 0 ≤ x) (hx1 : x < 2 ^ n) : x = 0 ↔ ∀ i : Nat, i < n → has x i = false := by
  obtain ⟨a, rfl⟩ := Int.eq_ofNat_of_zero_le hx
  have ha : a < 2 ^ n := by exact_mod_cast hx1
  constructor
  · intro h i _
    rw [h]
    exact zero_set i
  · intro h
    have : a = 0 := by
      apply Nat.eq_of_testBit_eq
      intro i
      rw [Nat.zero_testBit]
      by_cases hi : i < n
      · rw [← has_nat]; exact h i hi
      · exact Nat.testBit_lt_two_pow (Nat.lt_of_lt_of_le ha (Nat.pow_le_pow_right (by decide) (by omega)))
    exact_mod_cast this
theorem has_high {x : Int} {n i : Nat} (hx : 0 ≤ x) (hx1 : x < 2 ^ n) (hi : n ≤ i) : has x i = false := by
  obtain ⟨a, rfl⟩ := Int.eq_ofNat_of_zero_le hx
  have ha : a < 2 ^ n := by exact_mod_cast hx1
  rw [has_nat]
  exact Nat.testBit_lt_two_pow (Nat.lt_of_lt_of_le ha (Nat.pow_le_pow_right (by decide) hi))
end Go.Proofs.YtgffgmfjoepjoaaDoor.M
