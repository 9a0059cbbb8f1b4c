/- Tables: IsTable, a mark, the empty cells; the program's functions and the reference's. -/
import Derived.Test.YtgddmgcneefeeaaT1
set_option linter.unusedVariables false
set_option linter.unusedSimpArgs false
namespace Go.Proofs.Ytgddmgcneefeeaa.M
open Go.RowKit Go.Proofs.YtgddmgcneefeeaaW.PrintWords
theorem and1 {y : Int} (h0 : 0 ≤ y) (h1 : y < 9223372036854775808) : bits .and .i64 y 1 = y % 2 :=
  bits_mask .i64 63 (by decide) (fun n a b => by rw [IntKind.wrap_i64]; omega) 1 (by decide) y h0 h1
theorem div_le_self {x : Int} (h : 0 ≤ x) (k : Nat) : 0 ≤ x / 2 ^ k ∧ x / 2 ^ k ≤ x :=
  ⟨Int.ediv_nonneg h (Int.pow_nonneg (by omega)), Int.ediv_le_self _ h⟩
set_option maxHeartbeats 400000 in
theorem l1Has_c (l : List Int) (n : Int) (A : Option Addr) (c : Nat) (w : World) (hr : I.C w A l.length l) :
    Calls Try.prog 86 #[.slice A l.length c, .int .i64 n] w fun e w' => e = .returned (.bool (isIn l n)) ∧ w' = w := by
  have hm := hr.2.1
  have hC := Aside0.mk hr
  clear hr
  go_enter Try.func86, Try.ntmps86
  go_wp2
  go_loop [9] (fun i => ∃ k : Nat, k ≤ l.length ∧ i = .int .i64 k ∧ Aside0 (isIn (l.take k) n = false)) (fun i => l.length - (intOf i).toNat)
  case atStart => exact ⟨0, Nat.zero_le _, rfl, ⟨rfl⟩⟩
  case round =>
    obtain ⟨k, hk, rfl, hn⟩ := hrel
    by_cases hlt : k < l.length
    · obtain ⟨ad, rfl, hc⟩ := Kd.at_int hC.out k (by omega) (by omega)
      rw [Int.toNat_natCast] at hc
      by_cases he : rd l k = n
      · have he1 : (rd l k == n) = true := by simpa using he
        go_wp2
        go_ret
        exact ⟨ret_bool (by rw [eq_comm, isIn, List.contains_iff_mem, ← he]; exact rd_mem (by omega) (by omega)), rfl⟩
      · have he1 : (rd l k == n) = false := by simpa using he
        go_wp2
        go_round
        case rel => exact ⟨k + 1, by omega, by go_num, ⟨by have := hn.out; rw [take_snoc hlt]; simp [isIn] at this ⊢; exact ⟨this, fun h => he h.symm⟩⟩⟩
        case measure => simp [intOf]; omega
    · go_wp2
      go_ret
      exact ⟨ret_bool (by have := hn.out; rwa [List.take_of_length_le (by omega), eq_comm] at this), rfl⟩
set_option maxHeartbeats 800000 in
theorem marked_c (c : Nat) (m : List Int) (hv : VT c m) (r j : Int) (A : Option Addr) (k : Nat) (w : World) (hr : I.C w A m.length m) (h0 : 0 ≤ r) (h1 : r < m.length) (j0 : 0 ≤ j) (j1 : j ≤ 63) :
    Calls Try.prog 63 #[.agg #[.int .i64 (m.length : Int), .int .i64 (c : Int), .slice A m.length k], .int .i64 r, .int .i64 j] w fun e w' => e = .returned (.bool (has (rd m r) j)) ∧ Below w.heap.size w w' := by
  have hx0 := rd0 hv h0 h1
  have hx1 : rd m r < 64 := by
    have := hv.m64 _ (rd_mem h0 h1)
    have h6 : (2 : Int) ^ c ≤ 2 ^ 6 := by exact_mod_cast Nat.pow_le_pow_right (by omega) hv.c6
    omega
  have hd := div_le_self hx0 j.toNat
  obtain ⟨ad, rfl, hc⟩ := Kd.at_int hr r h0 h1
  obtain ⟨x, hx⟩ : ∃ x, x = rd m r := ⟨_, rfl⟩
  rw [← hx] at hx0 hx1 hd hc ⊢
  have hlt : ad.block < w.heap.size := by have := World.block_lt_of_cell? w _ hc; rwa [add_block] at this
  have hc1 : (w.alloc (.cells #[.int .i64 (m.length : Int), .int .i64 (c : Int), .slice (some ad) m.length k] 29)).cell? (ad.add r.toNat) = some (.int .i64 x) := pw_cell_below (below_alloc (Below.refl _ _) _) hc
  clear hx hr hv
  have hX := and1 (y := x / 2 ^ j.toNat) hd.1 (by omega)
  go_enter Try.func63, Try.ntmps63
  go_wp2
  go_ret
  exact ⟨ret_bool rfl, below_alloc (Below.refl _ _) _⟩
theorem marked_b {c : Nat} {m : List Int} (hv : VT c m) {r j : Int} {b : Bool} (hb : has (rd m r) j = b) (A : Option Addr) (k : Nat) (w : World) (hr : I.C w A m.length m) (h0 : 0 ≤ r) (h1 : r < m.length) (j0 : 0 ≤ j) (j1 : j ≤ 63) :
    Calls Try.prog 63 #[.agg #[.int .i64 (m.length : Int), .int .i64 (c : Int), .slice A m.length k], .int .i64 r, .int .i64 j] w fun e w' => e = .returned (.bool b) ∧ Below w.heap.size w w' := by
  subst hb; exact marked_c c m hv r j A k w hr h0 h1 j0 j1
end Go.Proofs.Ytgddmgcneefeeaa.M
