/- The least element of a set, and the set without it. -/
import Derived.Test.YtgffgmfjoepjoaaDoorO0
import Derived.Lib.TrailingZeros
set_option linter.unusedVariables false
set_option linter.unusedSimpArgs false
namespace Go.Proofs.YtgffgmfjoepjoaaDoor.M
open Go.RowKit Go.Proofs.YtgffgmfjoepjoaaDoorW.PrintWords
theorem low_nat {y : Nat} (h0 : 0 < y) (h1 : y < 2 ^ 64) : y.testBit (Lib.ctz 64 y) = true ∧ (∀ i, i < Lib.ctz 64 y → y.testBit i = false) ∧ ∀ i, (y &&& (y - 1)).testBit i = (y.testBit i && decide (i ≠ Lib.ctz 64 y)) := by
  obtain ⟨m, hm, _⟩ := Lib.ctzFrom_spec 64 y h0 h1
  have hc : Lib.ctz 64 y = Lib.ctzFrom 64 y := by rw [Lib.ctz, if_neg (by omega)]
  rw [← hc] at hm
  generalize Lib.ctz 64 y = c at hm
  have hb : ∀ i, y.testBit i = (decide (c ≤ i) && (2 * m + 1).testBit (i - c)) := fun i => by
    rw [hm, Nat.testBit_two_pow_mul]
  have h2 : 2 ^ c - 1 < 2 ^ c := by have := Nat.two_pow_pos c; omega
  have hy1 : y - 1 = 2 ^ c * (2 * m) + (2 ^ c - 1) := by
    have := Nat.two_pow_pos c
    rw [hm, Nat.mul_add, Nat.mul_one]
    omega
  have hb1 : ∀ i, (y - 1).testBit i = if i < c then true else (2 * m).testBit (i - c) := fun i => by
    rw [hy1, Nat.testBit_two_pow_mul_add _ h2]
    split
    · rw [Nat.testBit_two_pow_sub_one]; simp; assumption
    · rfl
  have h3 : ∀ i, i ≠ 0 → (2 * m + 1).testBit i = (2 * m).testBit i := fun i hi => by
    obtain ⟨j, rfl⟩ : ∃ j, i = j + 1 := ⟨i - 1, by omega⟩
    rw [Nat.testBit_succ, Nat.testBit_succ, show (2 * m + 1) / 2 = m by omega, show 2 * m / 2 = m by omega]
  refine ⟨by rw [hb]; simp, fun i hi => by rw [hb]; simp; omega, fun i => ?_⟩
  rw [Nat.testBit_and, hb1, hb]
  by_cases h4 : i < c
  · simp [show ¬ c ≤ i by omega]
  · rw [if_neg h4]
    by_cases h5 : i = c
    · subst h5
      simp
    · rw [h3 (i - c) (by omega)]
      simp [show c ≤ i by omega, h5]
/-- The least element of a set that is not empty. -/
theorem low_bit {y : Int} {n : Nat} (hn : n ≤ 62) (h0 : 0 < y) (h1 : y < 2 ^ n) : ∃ c : Nat, Lib.ctz 64 y.toNat = c ∧ c < n ∧ has y c = true ∧ (∀ i : Nat, i < c → has y i = false) ∧
    0 ≤ bits .and .i64 y (y - 1) ∧ bits .and .i64 y (y - 1) < y ∧ ∀ i : Nat, has (bits .and .i64 y (y - 1)) i = (has y i && decide (i ≠ c)) := by
  obtain ⟨a, rfl⟩ := Int.eq_ofNat_of_zero_le (show 0 ≤ y by omega)
  have ha : a < 2 ^ n := by exact_mod_cast h1
  have h62 : (2 : Nat) ^ n ≤ 2 ^ 62 := Nat.pow_le_pow_right (by decide) hn
  have h64 : (2 : Nat) ^ 62 ≤ 2 ^ 64 := Nat.pow_le_pow_right (by decide) (by decide)
  have ha0 : 0 < a := by exact_mod_cast h0
  obtain ⟨b1, b2, b3⟩ := low_nat ha0 (by omega)
  have e : ((a : Int) - 1) = ((a - 1 : Nat) : Int) := by omega
  rw [e, bits_and62 a (a - 1) (by omega) (by omega), Int.toNat_natCast]
  have hle : a &&& (a - 1) ≤ a - 1 := Nat.and_le_right
  refine ⟨_, rfl, ?_, by rw [has_nat]; exact b1, fun i hi => by rw [has_nat]; exact b2 i hi, Int.natCast_nonneg _, by omega, fun i => by rw [has_nat, has_nat, b3]⟩
  rcases Nat.lt_or_ge (Lib.ctz 64 a) n with h | h
  · exact h
  · rw [Nat.testBit_lt_two_pow (Nat.lt_of_lt_of_le ha (Nat.pow_le_pow_right (by decide) h))] at b1
    cases b1
/-- The elements found so far, and the set of the others. -/
structure Low (x : Int) (n : Nat) (y : Int) (out : List Int) : Prop where
  is : ∃ t : Nat, t ≤ n ∧ out = bitsTo x t ∧ ∀ i : Nat, has y i = (decide (t ≤ i) && has x i)
  y0 : 0 ≤ y
  y1 : y < 2 ^ n
theorem Low.start {x : Int} {n : Nat} (h0 : 0 ≤ x) (h1 : x < 2 ^ n) : Low x n x [] := ⟨⟨0, Nat.zero_le _, rfl, fun i => by simp⟩, h0, h1⟩
theorem Low.stop {x : Int} {n : Nat} {out : List Int} (hn : n ≤ 62) (h : Low x n 0 out) : out = bitsOf x := by
  obtain ⟨t, ht, rfl, hi⟩ := h.is
  rw [bitsOf_eq (k := t) (by omega) (fun i h1 => by have := hi i; rw [zero_set] at this; simpa [h1] using this.symm)]
theorem Low.step {x y : Int} {n : Nat} {out : List Int} (hn : n ≤ 62) (h : Low x n y out) (hy : 0 < y) :
    Low x n (bits .and .i64 y (y - 1)) (out ++ [(Lib.ctz 64 y.toNat : Int)]) ∧ bits .and .i64 y (y - 1) < y ∧ 0 ≤ bits .and .i64 y (y - 1) ∧ Lib.ctz 64 y.toNat < n := by
  obtain ⟨c, hc, hcn, h1, h2, h3, h4, h5⟩ := low_bit hn hy h.y1
  obtain ⟨t, ht, rfl, hi⟩ := h.is
  rw [hc]
  have htc : t ≤ c := by
    rcases Nat.lt_or_ge c t with h6 | h6
    · have := hi c; rw [h1] at this; simp [show ¬ t ≤ c by omega] at this
    · exact h6
  have hxc : has x c = true := by have := hi c; rw [h1] at this; simpa [htc] using this.symm
  have hz : ∀ i : Nat, t ≤ i → i < c → has x i = false := fun i h6 h7 => by have := hi i; rw [h2 i h7] at this; simpa [h6] using this.symm
  have e : bitsTo x t ++ [(c : Int)] = bitsTo x (c + 1) := by
    rw [bitsTo_yes hxc]
    congr 1
    have : ∀ d, t + d ≤ c → bitsTo x (t + d) = bitsTo x t := fun d => by
      induction d with
      | zero => intro _; rfl
      | succ d ih => intro h8; rw [← Nat.add_assoc, bitsTo_no (hz _ (by omega) (by omega)), ih (by omega)]
    have h9 := this (c - t) (by omega)
    rw [show t + (c - t) = c by omega] at h9
    exact h9.symm
  refine ⟨⟨⟨c + 1, by omega, e, fun i => ?_⟩, h3, by have := h.y1; omega⟩, h4, h3, hcn⟩
  rw [h5, hi]
  by_cases h6 : c + 1 ≤ i
  · simp [h6, show t ≤ i by omega, show i ≠ c by omega]
  · simp only [h6, decide_false, Bool.false_and]
    by_cases h7 : i = c
    · simp [h7]
    · rw [show (decide (t ≤ i) && has x i) = has y i from (hi i).symm, h2 i (by omega)]; rfl
end Go.Proofs.YtgffgmfjoepjoaaDoor.M
