/- Relations: an element better than another one; valid relations; the program's functions and the reference's. -/
import Derived.Test.YtgffgmfjoepjoaaDoorO0
set_option linter.unusedVariables false
set_option linter.unusedSimpArgs false
namespace Go.Proofs.YtgffgmfjoepjoaaDoor.M
open Go.RowKit Go.Proofs.YtgffgmfjoepjoaaDoorW.PrintWords
theorem pow10 {n : Nat} (h : n ≤ 10) : ∃ q : Int, Aside0 (q = 2 ^ n) ∧ (1 : Int) * 2 ^ n = q ∧ 1 ≤ q ∧ q ≤ 1024 := by
  refine ⟨2 ^ n, ⟨rfl⟩, by simp, ?_⟩
  have h1 : (2 : Int) ^ n ≤ 2 ^ 10 := by exact_mod_cast Nat.pow_le_pow_right (by decide) h
  have h2 : (0 : Int) < 2 ^ n := Int.pow_pos (by decide)
  omega
set_option maxHeartbeats 800000 in
theorem better_c (l : List Int) (hv : VO l) (i j : Int) (A : Option Addr) (k : Nat) (w : World) (hr : I.C w A l.length l) (h0 : 0 ≤ i) (h1 : i < l.length) (j0 : 0 ≤ j) (j1 : j ≤ 63) :
    Calls Tryd.prog 101 #[.agg #[.int .i64 (l.length : Int), .slice A l.length k], .int .i64 i, .int .i64 j] w fun e w' => e = .returned (.bool (has (rd l i) j)) ∧ Below w.heap.size w w' := by
  obtain ⟨hx0, _, hx1⟩ := hv.rd (i := i.toNat) (by omega)
  rw [Int.toNat_of_nonneg h0] at hx0 hx1
  have hd := div_le_self hx0 j.toNat
  obtain ⟨ad, rfl, hc⟩ := Kd.at_int hr i h0 h1
  obtain ⟨x, hx⟩ : ∃ x, x = rd l i := ⟨_, rfl⟩
  rw [← hx] at hx0 hx1 hd hc ⊢
  have hc1 : (w.alloc (.cells #[.int .i64 (l.length : Int), .slice (some ad) l.length k] 34)).cell? (ad.add i.toNat) = some (.int .i64 x) := pw_cell_below (below_alloc (Below.refl _ _) _) hc
  clear hx hr hv
  have hX := and1 (y := x / 2 ^ j.toNat) hd.1 (by omega)
  go_enter Tryd.func101, Tryd.ntmps101
  go_wp2
  go_ret
  exact ⟨ret_bool rfl, below_alloc (Below.refl _ _) _⟩
theorem better_b {l : List Int} (hv : VO l) {i j : Int} {b : Bool} (hb : has (rd l i) j = b) (A : Option Addr) (k : Nat) (w : World) (hr : I.C w A l.length l) (h0 : 0 ≤ i) (h1 : i < l.length) (j0 : 0 ≤ j) (j1 : j ≤ 63) :
    Calls Tryd.prog 101 #[.agg #[.int .i64 (l.length : Int), .slice A l.length k], .int .i64 i, .int .i64 j] w fun e w' => e = .returned (.bool b) ∧ Below w.heap.size w w' := by
  subst hb; exact better_c l hv i j A k w hr h0 h1 j0 j1
theorem rel_last {s : Int} {n : Nat} {l : List Int} {q : Int} (h1 : inR (n : Int) 0 10 = true) (h4 : ((l.length : Int) == (n : Int)) = true) (e : q = 2 ^ n) : allIn l 0 (q - 1) = relB n l := by
  have h5 : (l.length : Int) = n := by simpa using h4
  rw [relB, h1, e]
  simp [h5]
set_option maxHeartbeats 1600000 in
set_option maxRecDepth 100000 in
theorem isRelation_c (s : Int) (l : List Int) (A : Option Addr) (k : Nat) (w : World) (hr : I.C w A l.length l) :
    Calls Tryd.prog 108 #[.agg #[.int .i64 s, .slice A l.length k]] w fun e w' => e = .returned (.bool (relB s l)) ∧ Below w.heap.size w w' := by
  have hm := hr.2.1
  have HB := Aside0.mk (below_alloc (Below.refl w.heap.size w) (.cells #[.int .i64 s, .slice A l.length k] 34))
  have HR := Aside0.mk (Kd.C_alloc hr (.cells #[.int .i64 s, .slice A l.length k] 34))
  clear hr
  cases h1 : inR s 0 10
  · go_enter Tryd.func108, Tryd.ntmps108
    go_wp2
    go_quiet (first | (go_at_call 96; with_reducible exact Calls.quiet_of_same (within_b h1 _)))
    go_wp2
    go_ret
    exact ⟨ret_bool (by simp [relB, h1]), pw_below_drewN HB.out _⟩
  · have hc2 : 0 ≤ s ∧ s ≤ 10 := by simpa [inR] using h1
    obtain ⟨n, rfl⟩ := Int.eq_ofNat_of_zero_le hc2.1
    obtain ⟨hc3, hc4⟩ := hc2
    by_cases h3 : (l.length : Int) = n
    · have h4 : ((l.length : Int) == n) = true := by simpa using h3
      obtain ⟨q, HQ, hq, hq1, hq2⟩ := pow10 (n := n) (by omega)
      have hw1 : IntKind.i64.wrap q = q := by rw [IntKind.wrap_i64]; omega
      have hw2 : IntKind.i64.wrap (q - 1) = q - 1 := by rw [IntKind.wrap_i64]; omega
      clear h3
      go_enter Tryd.func108, Tryd.ntmps108
      go_wp2
      go_quiet (first | (go_at_call 96; with_reducible exact Calls.quiet_of_same (within_b h1 _)) | (go_at_call 151; exact Calls.quiet_of_same (allWithin_c l _ _ A k _ (Kd.C_drewN HR.out _))))
      go_wp2
      go_ret
      exact ⟨ret_bool (rel_last (s := 0) h1 h4 HQ.out), pw_below_drewN HB.out _⟩
    · have h4 : ((l.length : Int) == n) = false := by simpa using h3
      go_enter Tryd.func108, Tryd.ntmps108
      go_wp2
      go_quiet (first | (go_at_call 96; with_reducible exact Calls.quiet_of_same (within_b h1 _)))
      go_wp2
      go_ret
      exact ⟨ret_bool (by simp [relB, h1, h3]), pw_below_drewN HB.out _⟩
set_option maxHeartbeats 1600000 in
set_option maxRecDepth 100000 in
theorem orRelation_c (s : Int) (l : List Int) (A : Option Addr) (k : Nat) (w : World) (hr : I.C w A l.length l) :
    Calls Tryd.prog 136 #[.agg #[.int .i64 s, .slice A l.length k]] w fun e w' => e = .returned (.bool (relB s l)) ∧ Below w.heap.size w w' := by
  have hm := hr.2.1
  have HB := Aside0.mk (below_alloc (Below.refl w.heap.size w) (.cells #[.int .i64 s, .slice A l.length k] 34))
  have HR := Aside0.mk (Kd.C_alloc hr (.cells #[.int .i64 s, .slice A l.length k] 34))
  clear hr
  cases h1 : inR s 0 10
  · go_enter Tryd.func136, Tryd.ntmps136
    go_wp2
    go_quiet (first | (go_at_call 103; with_reducible exact Calls.quiet_of_same (l1In_b h1 _)))
    go_wp2
    go_ret
    exact ⟨ret_bool (by simp [relB, h1]), pw_below_drewN HB.out _⟩
  · have hc2 : 0 ≤ s ∧ s ≤ 10 := by simpa [inR] using h1
    obtain ⟨n, rfl⟩ := Int.eq_ofNat_of_zero_le hc2.1
    obtain ⟨hc3, hc4⟩ := hc2
    by_cases h3 : (l.length : Int) = n
    · have h4 : ((l.length : Int) == n) = true := by simpa using h3
      obtain ⟨q, HQ, hq, hq1, hq2⟩ := pow10 (n := n) (by omega)
      have hw1 : IntKind.i64.wrap q = q := by rw [IntKind.wrap_i64]; omega
      have hw2 : IntKind.i64.wrap (q - 1) = q - 1 := by rw [IntKind.wrap_i64]; omega
      clear h3
      go_enter Tryd.func136, Tryd.ntmps136
      go_wp2
      go_quiet (first | (go_at_call 103; with_reducible exact Calls.quiet_of_same (l1In_b h1 _)) | (go_at_call 171; exact Calls.quiet_of_same (l1All_c l _ _ A k _ (Kd.C_drewN HR.out _))))
      go_wp2
      go_ret
      exact ⟨ret_bool (rel_last (s := 0) h1 h4 HQ.out), pw_below_drewN HB.out _⟩
    · have h4 : ((l.length : Int) == n) = false := by simpa using h3
      go_enter Tryd.func136, Tryd.ntmps136
      go_wp2
      go_quiet (first | (go_at_call 103; with_reducible exact Calls.quiet_of_same (l1In_b h1 _)))
      go_wp2
      go_ret
      exact ⟨ret_bool (by simp [relB, h1, h3]), pw_below_drewN HB.out _⟩
end Go.Proofs.YtgffgmfjoepjoaaDoor.M
