/- Tables: what is within bounds, valid tables, marks, empty cells; the program's functions and the reference's. -/
import Derived.Test.YtgddmgcneefeeaaB0
set_option linter.unusedVariables false
set_option linter.unusedSimpArgs false
namespace Go.Proofs.Ytgddmgcneefeeaa.M
open Go.RowKit Go.Proofs.YtgddmgcneefeeaaW.PrintWords
def inR (n lo hi : Int) : Bool := decide (lo ≤ n) && decide (n ≤ hi)
def allIn (l : List Int) (lo hi : Int) : Bool := l.all fun x => inR x lo hi
def isIn (l : List Int) (n : Int) : Bool := l.contains n
def goodT (r c : Int) (m : List Int) : Bool := inR r 1 6 && (inR c 1 6 && (decide ((m.length : Int) = r) && allIn m 0 (2 ^ c.toNat - 1)))
/-- A valid table: as many rows as marks, c columns. -/
structure VT (c : Nat) (m : List Int) : Prop where
  l1 : 1 ≤ m.length
  l6 : m.length ≤ 6
  c1 : 1 ≤ c
  c6 : c ≤ 6
  m0 : ∀ x ∈ m, 0 ≤ x
  m64 : ∀ x ∈ m, x < 2 ^ c
theorem good_VT {r c : Int} {m : List Int} (h : goodT r c m = true) : ∃ n : Nat, c = n ∧ r = m.length ∧ VT n m := by
  simp only [goodT, inR, allIn, Bool.and_eq_true, decide_eq_true_eq, List.all_eq_true] at h
  obtain ⟨⟨h1, h2⟩, ⟨h3, h4⟩, h5, h6⟩ := h
  refine ⟨c.toNat, by omega, h5.symm, by omega, by omega, by omega, by omega, fun x hx => (h6 x hx).1, fun x hx => ?_⟩
  have := (h6 x hx).2
  omega
theorem rd0 {c : Nat} {m : List Int} (h : VT c m) {i : Int} (h0 : 0 ≤ i) (h1 : i < m.length) : 0 ≤ rd m i := h.m0 _ (rd_mem h0 h1)
set_option maxHeartbeats 400000 in
theorem within_c (n lo hi : Int) (w : World) : Calls Try.prog 64 #[.int .i64 n, .int .i64 lo, .int .i64 hi] w fun e w' => e = .returned (.bool (inR n lo hi)) ∧ w' = w := by
  by_cases h : lo ≤ n
  all_goals
    go_enter Try.func64, Try.ntmps64
    go_wp2
    go_ret
    exact ⟨ret_bool (by first | (simp [inR, h]; done) | (simp [inR]; omega)), rfl⟩
set_option maxHeartbeats 400000 in
theorem l1In_c (n lo hi : Int) (w : World) : Calls Try.prog 67 #[.int .i64 n, .int .i64 lo, .int .i64 hi] w fun e w' => e = .returned (.bool (inR n lo hi)) ∧ w' = w := by
  by_cases h : lo ≤ n
  all_goals
    go_enter Try.func67, Try.ntmps67
    go_wp2
    go_ret
    exact ⟨ret_bool (by first | (simp [inR, h]; done) | (simp [inR]; omega)), rfl⟩
theorem allIn_snoc (l : List Int) (x lo hi : Int) : allIn (l ++ [x]) lo hi = (allIn l lo hi && inR x lo hi) := by simp [allIn]
theorem allIn_false {l : List Int} {k : Nat} {lo hi : Int} (h : k < l.length) (hx : inR (rd l k) lo hi = false) : allIn l lo hi = false := by
  rw [allIn, List.all_eq_false]
  exact ⟨rd l k, rd_mem (by omega) (by omega), by simp [hx]⟩
set_option maxHeartbeats 400000 in
theorem allWithin_c (l : List Int) (lo hi : Int) (A : Option Addr) (c : Nat) (w : World) (hr : I.C w A l.length l) :
    Calls Try.prog 78 #[.slice A l.length c, .int .i64 lo, .int .i64 hi] w fun e w' => e = .returned (.bool (allIn l lo hi)) ∧ w' = w := by
  have hm := hr.2.1
  have hC := Aside0.mk hr
  clear hr
  go_enter Try.func78, Try.ntmps78
  go_wp2
  go_loop [11] (fun i => ∃ k : Nat, k ≤ l.length ∧ i = .int .i64 k ∧ Aside0 (allIn (l.take k) lo hi = true)) (fun i => l.length - (intOf i).toNat)
  case atStart => exact ⟨0, Nat.zero_le _, rfl, ⟨rfl⟩⟩
  case round =>
    obtain ⟨k, hk, rfl, hn⟩ := hrel
    by_cases hlt : k < l.length
    · obtain ⟨ad, rfl, hc⟩ := Kd.at_int hC.out k (by omega) (by omega)
      rw [Int.toNat_natCast] at hc
      cases hb : inR (rd l k) lo hi
      · go_wp2_with (go_at_call 64; refine (within_c _ _ _ _).mono ?_; rintro e w' ⟨rfl, rfl⟩)
        go_ret
        exact ⟨ret_bool (allIn_false hlt hb).symm, rfl⟩
      · go_wp2_with (go_at_call 64; refine (within_c _ _ _ _).mono ?_; rintro e w' ⟨rfl, rfl⟩)
        go_round
        case rel => exact ⟨k + 1, by omega, by go_num, ⟨by rw [take_snoc hlt, allIn_snoc, hn.out, hb]; rfl⟩⟩
        case measure => simp [intOf]; omega
    · go_wp2
      go_ret
      exact ⟨ret_bool (by have := hn.out; rwa [List.take_of_length_le (by omega), eq_comm] at this), rfl⟩
set_option maxHeartbeats 400000 in
theorem l1All_c (l : List Int) (lo hi : Int) (A : Option Addr) (c : Nat) (w : World) (hr : I.C w A l.length l) :
    Calls Try.prog 82 #[.slice A l.length c, .int .i64 lo, .int .i64 hi] w fun e w' => e = .returned (.bool (allIn l lo hi)) ∧ w' = w := by
  have hm := hr.2.1
  have hC := Aside0.mk hr
  clear hr
  go_enter Try.func82, Try.ntmps82
  go_wp2
  go_loop [11] (fun i => ∃ k : Nat, k ≤ l.length ∧ i = .int .i64 k ∧ Aside0 (allIn (l.take k) lo hi = true)) (fun i => l.length - (intOf i).toNat)
  case atStart => exact ⟨0, Nat.zero_le _, rfl, ⟨rfl⟩⟩
  case round =>
    obtain ⟨k, hk, rfl, hn⟩ := hrel
    by_cases hlt : k < l.length
    · obtain ⟨ad, rfl, hc⟩ := Kd.at_int hC.out k (by omega) (by omega)
      rw [Int.toNat_natCast] at hc
      cases hb : inR (rd l k) lo hi
      · go_wp2_with (go_at_call 67; refine (l1In_c _ _ _ _).mono ?_; rintro e w' ⟨rfl, rfl⟩)
        go_ret
        exact ⟨ret_bool (allIn_false hlt hb).symm, rfl⟩
      · go_wp2_with (go_at_call 67; refine (l1In_c _ _ _ _).mono ?_; rintro e w' ⟨rfl, rfl⟩)
        go_round
        case rel => exact ⟨k + 1, by omega, by go_num, ⟨by rw [take_snoc hlt, allIn_snoc, hn.out, hb]; rfl⟩⟩
        case measure => simp [intOf]; omega
    · go_wp2
      go_ret
      exact ⟨ret_bool (by have := hn.out; rwa [List.take_of_length_le (by omega), eq_comm] at this), rfl⟩
set_option maxHeartbeats 400000 in
theorem orHas_c (x i : Int) (w : World) (h0 : 0 ≤ x) (hi : 0 ≤ i) (h6 : i ≤ 63) :
    Calls Try.prog 73 #[.int .i64 x, .int .i64 i] w fun e w' => e = .returned (.bool (has x i)) ∧ w' = w := by
  have h0' : 0 ≤ x / 2 ^ i.toNat := Int.ediv_nonneg h0 (Int.pow_nonneg (by omega))
  go_enter Try.func73, Try.ntmps73
  go_wp2
  go_ret
  exact ⟨rfl, rfl⟩
end Go.Proofs.Ytgddmgcneefeeaa.M
