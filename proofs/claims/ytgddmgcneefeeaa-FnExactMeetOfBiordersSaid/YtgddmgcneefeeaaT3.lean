/- Tables: IsTable and the reference's feGood tell valid tables. -/
import Derived.Test.YtgddmgcneefeeaaT2
set_option linter.unusedVariables false
set_option linter.unusedSimpArgs false
namespace Go.Proofs.Ytgddmgcneefeeaa.M
open Go.RowKit Go.Proofs.YtgddmgcneefeeaaW.PrintWords
theorem within_b {n lo hi : Int} {b : Bool} (h : inR n lo hi = b) (w : World) : Calls Try.prog 64 #[.int .i64 n, .int .i64 lo, .int .i64 hi] w fun e w' => e = .returned (.bool b) ∧ w' = w := by
  subst h; exact within_c _ _ _ _
theorem good_last {r : Int} {n : Nat} {m : List Int} {q : Int} (h1 : inR r 1 6 = true) (h2 : inR (n : Int) 1 6 = true) (h4 : ((m.length : Int) == r) = true) (e : q = 2 ^ n) : allIn m 0 (q - 1) = goodT r n m := by
  have h5 : (m.length : Int) = r := by simpa using h4
  rw [goodT, h1, h2, e]
  simp [h5]
set_option maxHeartbeats 1600000 in
set_option maxRecDepth 100000 in
theorem IsTable_c (r c : Int) (m : List Int) (A : Option Addr) (k : Nat) (w : World) (hr : I.C w A m.length m) :
    Calls Try.prog 37 #[.agg #[.int .i64 r, .int .i64 c, .slice A m.length k]] w fun e w' => e = .returned (.bool (goodT r c m)) ∧ Below w.heap.size w w' := by
  have hm := hr.2.1
  have HB := Aside0.mk (below_alloc (Below.refl w.heap.size w) (.cells #[.int .i64 r, .int .i64 c, .slice A m.length k] 29))
  have HR := Aside0.mk (Kd.C_alloc hr (.cells #[.int .i64 r, .int .i64 c, .slice A m.length k] 29))
  clear hr
  cases h1 : inR r 1 6
  · go_enter Try.func37, Try.ntmps37
    go_wp2
    go_quiet (first | (go_at_call 64; with_reducible exact Calls.quiet_of_same (within_b h1 _)))
    go_wp2
    go_ret
    exact ⟨ret_bool (by simp [goodT, h1]), pw_below_drewN HB.out _⟩
  · cases h2 : inR c 1 6
    · go_enter Try.func37, Try.ntmps37
      go_wp2
      go_quiet (first | (go_at_call 64; with_reducible exact Calls.quiet_of_same (within_b h1 _)) | (go_at_call 64; with_reducible exact Calls.quiet_of_same (within_b h2 _)))
      go_wp2
      go_ret
      exact ⟨ret_bool (by simp [goodT, h1, h2]), pw_below_drewN HB.out _⟩
    · have hc2 : 1 ≤ c ∧ c ≤ 6 := by simpa [inR] using h2
      obtain ⟨n, rfl⟩ := Int.eq_ofNat_of_zero_le (show 0 ≤ c by omega)
      obtain ⟨hc3, hc4⟩ := hc2
      by_cases h3 : (m.length : Int) = r
      · have h4 : ((m.length : Int) == r) = true := by simpa using h3
        have hsh : ∃ q : Int, Aside0 (q = 2 ^ n) ∧ (1 : Int) * 2 ^ n = q ∧ 1 ≤ q ∧ q ≤ 64 := by
          refine ⟨2 ^ n, ⟨rfl⟩, by simp, ?_⟩
          have a : n = 1 ∨ n = 2 ∨ n = 3 ∨ n = 4 ∨ n = 5 ∨ n = 6 := by omega
          rcases a with rfl | rfl | rfl | rfl | rfl | rfl <;> decide
        obtain ⟨q, HQ, hq, hq1, hq2⟩ := hsh
        have hw1 : IntKind.i64.wrap q = q := by rw [IntKind.wrap_i64]; omega
        have hw2 : IntKind.i64.wrap (q - 1) = q - 1 := by rw [IntKind.wrap_i64]; omega
        clear h3
        go_enter Try.func37, Try.ntmps37
        go_wp2
        go_quiet (first | (go_at_call 64; with_reducible exact Calls.quiet_of_same (within_b h1 _)) | (go_at_call 64; with_reducible exact Calls.quiet_of_same (within_b h2 _)) | (go_at_call 78; exact Calls.quiet_of_same (allWithin_c m _ _ A k _ (Kd.C_drewN HR.out _))))
        go_wp2
        go_ret
        exact ⟨ret_bool (good_last h1 h2 h4 HQ.out), pw_below_drewN HB.out _⟩
      · have h4 : ((m.length : Int) == r) = false := by simpa using h3
        go_enter Try.func37, Try.ntmps37
        go_wp2
        go_quiet (first | (go_at_call 64; with_reducible exact Calls.quiet_of_same (within_b h1 _)) | (go_at_call 64; with_reducible exact Calls.quiet_of_same (within_b h2 _)))
        go_wp2
        go_ret
        exact ⟨ret_bool (by simp [goodT, h1, h2, h3]), pw_below_drewN HB.out _⟩
end Go.Proofs.Ytgddmgcneefeeaa.M
