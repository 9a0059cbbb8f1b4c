/- What is within bounds; the members of a set told by bits; the program's functions and the reference's. -/
import Derived.Test.YtgffgmfjoepjoaaDoorB0
set_option linter.unusedVariables false
set_option linter.unusedSimpArgs false
namespace Go.Proofs.YtgffgmfjoepjoaaDoor.M
open Go.RowKit Go.Proofs.YtgffgmfjoepjoaaDoorW.PrintWords
def inR (n lo hi : Int) : Bool := decide (lo ≤ n) && decide (n ≤ hi)
def allIn (l : List Int) (lo hi : Int) : Bool := l.all fun x => inR x lo hi
def isIn (l : List Int) (n : Int) : Bool := l.contains n
set_option maxHeartbeats 400000 in
theorem within_c (n lo hi : Int) (w : World) : Calls Tryd.prog 96 #[.int .i64 n, .int .i64 lo, .int .i64 hi] w fun e w' => e = .returned (.bool (inR n lo hi)) ∧ w' = w := by
  by_cases h : lo ≤ n
  all_goals
    go_enter Tryd.func96, Tryd.ntmps96
    go_wp2
    go_ret
    exact ⟨ret_bool (by first | (simp [inR, h]; done) | (simp [inR]; omega)), rfl⟩
set_option maxHeartbeats 400000 in
theorem l1In_c (n lo hi : Int) (w : World) : Calls Tryd.prog 103 #[.int .i64 n, .int .i64 lo, .int .i64 hi] w fun e w' => e = .returned (.bool (inR n lo hi)) ∧ w' = w := by
  by_cases h : lo ≤ n
  all_goals
    go_enter Tryd.func103, Tryd.ntmps103
    go_wp2
    go_ret
    exact ⟨ret_bool (by first | (simp [inR, h]; done) | (simp [inR]; omega)), rfl⟩
theorem allIn_snoc (l : List Int) (x lo hi : Int) : allIn (l ++ [x]) lo hi = (allIn l lo hi && inR x lo hi) := by simp [allIn]
theorem allIn_false {l : List Int} {k : Nat} {lo hi : Int} (h : k < l.length) (hx : inR (rd l k) lo hi = false) : allIn l lo hi = false := by
  rw [allIn, List.all_eq_false]
  exact ⟨rd l k, rd_mem (by omega) (by omega), by simp [hx]⟩
set_option maxHeartbeats 400000 in
theorem allWithin_c (l : List Int) (lo hi : Int) (A : Option Addr) (c : Nat) (w : World) (hr : I.C w A l.length l) :
    Calls Tryd.prog 151 #[.slice A l.length c, .int .i64 lo, .int .i64 hi] w fun e w' => e = .returned (.bool (allIn l lo hi)) ∧ w' = w := by
  have hm := hr.2.1
  have hC := Aside0.mk hr
  clear hr
  go_enter Tryd.func151, Tryd.ntmps151
  go_wp2
  go_loop [11] (fun i => ∃ k : Nat, k ≤ l.length ∧ i = .int .i64 k ∧ Aside0 (allIn (l.take k) lo hi = true)) (fun i => l.length - (intOf i).toNat)
  case atStart => exact ⟨0, Nat.zero_le _, rfl, ⟨rfl⟩⟩
  case round =>
    obtain ⟨k, hk, rfl, hn⟩ := hrel
    by_cases hlt : k < l.length
    · obtain ⟨ad, rfl, hc⟩ := Kd.at_int hC.out k (by omega) (by omega)
      rw [Int.toNat_natCast] at hc
      cases hb : inR (rd l k) lo hi
      · go_wp2_with (go_at_call 96; refine (within_c _ _ _ _).mono ?_; rintro e w' ⟨rfl, rfl⟩)
        go_ret
        exact ⟨ret_bool (allIn_false hlt hb).symm, rfl⟩
      · go_wp2_with (go_at_call 96; refine (within_c _ _ _ _).mono ?_; rintro e w' ⟨rfl, rfl⟩)
        go_round
        case rel => exact ⟨k + 1, by omega, by go_num, ⟨by rw [take_snoc hlt, allIn_snoc, hn.out, hb]; rfl⟩⟩
        case measure => simp [intOf]; omega
    · go_wp2
      go_ret
      exact ⟨ret_bool (by have := hn.out; rwa [List.take_of_length_le (by omega), eq_comm] at this), rfl⟩
set_option maxHeartbeats 400000 in
theorem l1All_c (l : List Int) (lo hi : Int) (A : Option Addr) (c : Nat) (w : World) (hr : I.C w A l.length l) :
    Calls Tryd.prog 171 #[.slice A l.length c, .int .i64 lo, .int .i64 hi] w fun e w' => e = .returned (.bool (allIn l lo hi)) ∧ w' = w := by
  have hm := hr.2.1
  have hC := Aside0.mk hr
  clear hr
  go_enter Tryd.func171, Tryd.ntmps171
  go_wp2
  go_loop [11] (fun i => ∃ k : Nat, k ≤ l.length ∧ i = .int .i64 k ∧ Aside0 (allIn (l.take k) lo hi = true)) (fun i => l.length - (intOf i).toNat)
  case atStart => exact ⟨0, Nat.zero_le _, rfl, ⟨rfl⟩⟩
  case round =>
    obtain ⟨k, hk, rfl, hn⟩ := hrel
    by_cases hlt : k < l.length
    · obtain ⟨ad, rfl, hc⟩ := Kd.at_int hC.out k (by omega) (by omega)
      rw [Int.toNat_natCast] at hc
      cases hb : inR (rd l k) lo hi
      · go_wp2_with (go_at_call 103; refine (l1In_c _ _ _ _).mono ?_; rintro e w' ⟨rfl, rfl⟩)
        go_ret
        exact ⟨ret_bool (allIn_false hlt hb).symm, rfl⟩
      · go_wp2_with (go_at_call 103; refine (l1In_c _ _ _ _).mono ?_; rintro e w' ⟨rfl, rfl⟩)
        go_round
        case rel => exact ⟨k + 1, by omega, by go_num, ⟨by rw [take_snoc hlt, allIn_snoc, hn.out, hb]; rfl⟩⟩
        case measure => simp [intOf]; omega
    · go_wp2
      go_ret
      exact ⟨ret_bool (by have := hn.out; rwa [List.take_of_length_le (by omega), eq_comm] at this), rfl⟩
set_option maxHeartbeats 400000 in
theorem orHas_c (x i : Int) (w : World) (h0 : 0 ≤ x) (hi : 0 ≤ i) (h6 : i ≤ 63) :
    Calls Tryd.prog 105 #[.int .i64 x, .int .i64 i] w fun e w' => e = .returned (.bool (has x i)) ∧ w' = w := by
  have h0' : 0 ≤ x / 2 ^ i.toNat := Int.ediv_nonneg h0 (Int.pow_nonneg (by omega))
  go_enter Tryd.func105, Tryd.ntmps105
  go_wp2
  go_ret
  exact ⟨rfl, rfl⟩
theorem within_b {n lo hi : Int} {b : Bool} (h : inR n lo hi = b) (w : World) : Calls Tryd.prog 96 #[.int .i64 n, .int .i64 lo, .int .i64 hi] w fun e w' => e = .returned (.bool b) ∧ w' = w := by
  subst h; exact within_c _ _ _ _
theorem l1In_b {n lo hi : Int} {b : Bool} (h : inR n lo hi = b) (w : World) : Calls Tryd.prog 103 #[.int .i64 n, .int .i64 lo, .int .i64 hi] w fun e w' => e = .returned (.bool b) ∧ w' = w := by
  subst h; exact l1In_c _ _ _ _
theorem and1 {y : Int} (h0 : 0 ≤ y) (h1 : y < 9223372036854775808) : bits .and .i64 y 1 = y % 2 :=
  bits_mask .i64 63 (by decide) (fun n a b => by rw [IntKind.wrap_i64]; omega) 1 (by decide) y h0 h1
theorem div_le_self {x : Int} (h : 0 ≤ x) (k : Nat) : 0 ≤ x / 2 ^ k ∧ x / 2 ^ k ≤ x :=
  ⟨Int.ediv_nonneg h (Int.pow_nonneg (by omega)), Int.ediv_le_self _ h⟩
theorem orHas_b {x i : Int} {b : Bool} (h : has x i = b) (w : World) (h0 : 0 ≤ x) (hi : 0 ≤ i) (h6 : i ≤ 63) :
    Calls Tryd.prog 105 #[.int .i64 x, .int .i64 i] w fun e w' => e = .returned (.bool b) ∧ w' = w := by
  subst h; exact orHas_c x i w h0 hi h6
def scan {α : Type} (f : Nat → Option α) : Nat → Nat → Option α
  | 0, _ => none
  | d + 1, g => match f g with | some o => some o | none => scan f d (g + 1)
theorem scan_none {α : Type} {f : Nat → Option α} : ∀ d g, (∀ i, g ≤ i → i < g + d → f i = none) → scan f d g = none
  | 0, _, _ => rfl
  | d + 1, g, h => by
    rw [scan, h g (Nat.le_refl _) (by omega)]
    exact scan_none d (g + 1) (fun i h1 h2 => h i (by omega) (by omega))
theorem scan_some {α : Type} {f : Nat → Option α} {o : α} : ∀ d g k, (∀ i, g ≤ i → i < k → f i = none) → g ≤ k → k < g + d → f k = some o → scan f d g = some o
  | 0, g, k, _, h1, h2, _ => by omega
  | d + 1, g, k, h, h1, h2, h3 => by
    rw [scan]
    rcases Nat.lt_or_ge g k with h4 | h4
    · rw [h g (Nat.le_refl _) h4]
      exact scan_some d (g + 1) k (fun i h5 h6 => h i (by omega) h6) h4 (by omega) h3
    · rw [show g = k by omega, h3]
theorem scan_eq {α : Type} {f : Nat → Option α} : ∀ d g, (scan f d g = none ∧ ∀ i, g ≤ i → i < g + d → f i = none) ∨ ∃ k o, g ≤ k ∧ k < g + d ∧ f k = some o ∧ scan f d g = some o
  | 0, g => .inl ⟨rfl, fun i _ _ => by omega⟩
  | d + 1, g => by
    cases h : f g with
    | some o => exact .inr ⟨g, o, Nat.le_refl _, by omega, h, by rw [scan, h]⟩
    | none =>
      rcases scan_eq (f := f) d (g + 1) with ⟨h1, h2⟩ | ⟨k, o, h1, h2, h3, h4⟩
      · refine .inl ⟨by rw [scan, h]; exact h1, fun i h3 h4 => ?_⟩
        rcases Nat.lt_or_ge g i with h5 | h5
        · exact h2 i h5 (by omega)
        · rw [show i = g by omega]; exact h
      · exact .inr ⟨k, o, by omega, by omega, h3, by rw [scan, h]; exact h4⟩
theorem scan_congr {α : Type} {f f' : Nat → Option α} : ∀ d g, (∀ i, g ≤ i → i < g + d → f i = f' i) → scan f d g = scan f' d g
  | 0, _, _ => rfl
  | d + 1, g, h => by rw [scan, scan, h g (Nat.le_refl _) (by omega), scan_congr d (g + 1) (fun i h1 h2 => h i (by omega) (by omega))]
end Go.Proofs.YtgffgmfjoepjoaaDoor.M
