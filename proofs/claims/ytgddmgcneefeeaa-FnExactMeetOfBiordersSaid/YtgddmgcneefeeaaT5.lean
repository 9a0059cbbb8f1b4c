/- Tables: feGood, few empty cells, the cells with a number; the program's functions and the reference's. -/
import Derived.Test.YtgddmgcneefeeaaT4
set_option linter.unusedVariables false
set_option linter.unusedSimpArgs false
namespace Go.Proofs.Ytgddmgcneefeeaa.M
open Go.RowKit Go.Proofs.YtgddmgcneefeeaaW.PrintWords
theorem l1In_b {n lo hi : Int} {b : Bool} (h : inR n lo hi = b) (w : World) : Calls Try.prog 67 #[.int .i64 n, .int .i64 lo, .int .i64 hi] w fun e w' => e = .returned (.bool b) ∧ w' = w := by
  subst h; exact l1In_c _ _ _ _
set_option maxHeartbeats 1600000 in
set_option maxRecDepth 100000 in
theorem feGood_c (r c : Int) (m : List Int) (A : Option Addr) (k : Nat) (w : World) (hr : I.C w A m.length m) :
    Calls Try.prog 69 #[.agg #[.int .i64 r, .int .i64 c, .slice A m.length k]] w fun e w' => e = .returned (.bool (goodT r c m)) ∧ Below w.heap.size w w' := by
  have hm := hr.2.1
  have HB := Aside0.mk (below_alloc (Below.refl w.heap.size w) (.cells #[.int .i64 r, .int .i64 c, .slice A m.length k] 29))
  have HR := Aside0.mk (Kd.C_alloc hr (.cells #[.int .i64 r, .int .i64 c, .slice A m.length k] 29))
  clear hr
  cases h1 : inR r 1 6
  · go_enter Try.func69, Try.ntmps69
    go_wp2
    go_quiet (first | (go_at_call 67; with_reducible exact Calls.quiet_of_same (l1In_b h1 _)))
    go_wp2
    go_ret
    exact ⟨ret_bool (by simp [goodT, h1]), pw_below_drewN HB.out _⟩
  · cases h2 : inR c 1 6
    · go_enter Try.func69, Try.ntmps69
      go_wp2
      go_quiet (first | (go_at_call 67; with_reducible exact Calls.quiet_of_same (l1In_b h1 _)) | (go_at_call 67; with_reducible exact Calls.quiet_of_same (l1In_b h2 _)))
      go_wp2
      go_ret
      exact ⟨ret_bool (by simp [goodT, h1, h2]), pw_below_drewN HB.out _⟩
    · have hc2 : 1 ≤ c ∧ c ≤ 6 := by simpa [inR] using h2
      obtain ⟨n, rfl⟩ := Int.eq_ofNat_of_zero_le (show 0 ≤ c by omega)
      obtain ⟨hc3, hc4⟩ := hc2
      by_cases h3 : (m.length : Int) = r
      · have h4 : ((m.length : Int) == r) = true := by simpa using h3
        have hsh : ∃ q : Int, Aside0 (q = 2 ^ n) ∧ (1 : Int) * 2 ^ n = q ∧ 1 ≤ q ∧ q ≤ 64 := by
          refine ⟨2 ^ n, ⟨rfl⟩, by simp, ?_⟩
          have a : n = 1 ∨ n = 2 ∨ n = 3 ∨ n = 4 ∨ n = 5 ∨ n = 6 := by omega
          rcases a with rfl | rfl | rfl | rfl | rfl | rfl <;> decide
        obtain ⟨q, HQ, hq, hq1, hq2⟩ := hsh
        have hw1 : IntKind.i64.wrap q = q := by rw [IntKind.wrap_i64]; omega
        have hw2 : IntKind.i64.wrap (q - 1) = q - 1 := by rw [IntKind.wrap_i64]; omega
        clear h3
        go_enter Try.func69, Try.ntmps69
        go_wp2
        go_quiet (first | (go_at_call 67; with_reducible exact Calls.quiet_of_same (l1In_b h1 _)) | (go_at_call 67; with_reducible exact Calls.quiet_of_same (l1In_b h2 _)) | (go_at_call 82; exact Calls.quiet_of_same (l1All_c m _ _ A k _ (Kd.C_drewN HR.out _))))
        go_wp2
        go_ret
        exact ⟨ret_bool (good_last h1 h2 h4 HQ.out), pw_below_drewN HB.out _⟩
      · have h4 : ((m.length : Int) == r) = false := by simpa using h3
        go_enter Try.func69, Try.ntmps69
        go_wp2
        go_quiet (first | (go_at_call 67; with_reducible exact Calls.quiet_of_same (l1In_b h1 _)) | (go_at_call 67; with_reducible exact Calls.quiet_of_same (l1In_b h2 _)))
        go_wp2
        go_ret
        exact ⟨ret_bool (by simp [goodT, h1, h2, h3]), pw_below_drewN HB.out _⟩
theorem IsTable_b {r c : Int} {m : List Int} {b : Bool} (h : goodT r c m = b) (A : Option Addr) (k : Nat) (w : World) (hr : I.C w A m.length m) :
    Calls Try.prog 37 #[.agg #[.int .i64 r, .int .i64 c, .slice A m.length k]] w fun e w' => e = .returned (.bool b) ∧ Below w.heap.size w w' := by
  subst h; exact IsTable_c r c m A k w hr
theorem feGood_b {r c : Int} {m : List Int} {b : Bool} (h : goodT r c m = b) (A : Option Addr) (k : Nat) (w : World) (hr : I.C w A m.length m) :
    Calls Try.prog 69 #[.agg #[.int .i64 r, .int .i64 c, .slice A m.length k]] w fun e w' => e = .returned (.bool b) ∧ Below w.heap.size w w' := by
  subst h; exact feGood_c r c m A k w hr
def few (r c : Int) (m : List Int) : Bool := goodT r c m && decide (((emp c.toNat m).length : Int) ≤ 9)
def partTo (cells numbers : List Int) (n : Int) (k : Nat) : List Int := ((List.range k).filter fun i : Nat => rd numbers i == n).map fun i : Nat => rd cells i
def part (cells numbers : List Int) (n : Int) : List Int := partTo cells numbers n numbers.length
theorem partTo_yes {cells numbers : List Int} {n : Int} {k : Nat} (h : rd numbers k = n) : partTo cells numbers n (k + 1) = partTo cells numbers n k ++ [rd cells k] := by simp [partTo, List.range_succ, List.filter_append, h]
theorem partTo_no {cells numbers : List Int} {n : Int} {k : Nat} (h : ¬ rd numbers k = n) : partTo cells numbers n (k + 1) = partTo cells numbers n k := by simp [partTo, List.range_succ, List.filter_append, h]
set_option maxHeartbeats 800000 in
theorem isSplit_c (r c : Int) (m : List Int) (A : Option Addr) (k : Nat) (hk : m.length ≤ k) (w : World) (hr : I.C w A m.length m) :
    Calls Try.prog 57 #[.agg #[.int .i64 r, .int .i64 c, .slice A m.length k]] w fun e w' => e = .returned (.bool (few r c m)) ∧ Below w.heap.size w w' := by
  have HR := Aside0.mk hr
  have hB := Aside0.mk (below_alloc (Below.refl w.heap.size w) (.cells #[.int .i64 r, .int .i64 c, .slice A m.length k] 29))
  have hX := Aside0.mk (blk_new w (.cells #[.int .i64 r, .int .i64 c, .slice A m.length k] 29))
  clear hr
  cases hg : goodT r c m
  · go_enter Try.func57, Try.ntmps57
    go_wp2_with fail
    refine (IsTable_b hg A k _ (Kd.C_below HR.out hB.out)).mono ?_
    rintro e w1 ⟨rfl, hb⟩
    go_wp2
    go_ret
    exact ⟨ret_bool (by simp [few, hg]), below_step hB.out hb⟩
  · obtain ⟨n, rfl, rfl, hv⟩ := good_VT hg
    have HV := Aside0.mk hv
    clear hv
    go_enter Try.func57, Try.ntmps57
    go_wp2_with fail
    refine (IsTable_b hg A k _ (Kd.C_below HR.out hB.out)).mono ?_
    rintro e w1 ⟨rfl, hb⟩
    have HB1 := Aside0.mk (below_step hB.out hb)
    obtain ⟨hx0, hx1, hx2⟩ := box3 (blk_below hX.out hb)
    clear hb hB hX
    go_wp2_with fail
    refine (emptyCells_c n m HV.out A k _ (Kd.C_below HR.out HB1.out)).mono ?_
    rintro e w2 ⟨v, rfl, ho, hb2⟩
    obtain ⟨A6, c6, rfl, _⟩ := OI_shape ho
    have HB2 := Aside0.mk (below_step HB1.out hb2)
    clear hb2 ho HB1
    go_wp2
    go_ret
    exact ⟨ret_bool (by simp [few, hg]), HB2.out⟩
set_option maxHeartbeats 800000 in
theorem feFew_c (r c : Int) (m : List Int) (A : Option Addr) (k : Nat) (hk : m.length ≤ k) (w : World) (hr : I.C w A m.length m) :
    Calls Try.prog 59 #[.agg #[.int .i64 r, .int .i64 c, .slice A m.length k]] w fun e w' => e = .returned (.bool (few r c m)) ∧ Below w.heap.size w w' := by
  have HR := Aside0.mk hr
  have hB := Aside0.mk (below_alloc (Below.refl w.heap.size w) (.cells #[.int .i64 r, .int .i64 c, .slice A m.length k] 29))
  have hX := Aside0.mk (blk_new w (.cells #[.int .i64 r, .int .i64 c, .slice A m.length k] 29))
  clear hr
  cases hg : goodT r c m
  · go_enter Try.func59, Try.ntmps59
    go_wp2_with fail
    refine (feGood_b hg A k _ (Kd.C_below HR.out hB.out)).mono ?_
    rintro e w1 ⟨rfl, hb⟩
    go_wp2
    go_ret
    exact ⟨ret_bool (by simp [few, hg]), below_step hB.out hb⟩
  · obtain ⟨n, rfl, rfl, hv⟩ := good_VT hg
    have HV := Aside0.mk hv
    clear hv
    go_enter Try.func59, Try.ntmps59
    go_wp2_with fail
    refine (feGood_b hg A k _ (Kd.C_below HR.out hB.out)).mono ?_
    rintro e w1 ⟨rfl, hb⟩
    have HB1 := Aside0.mk (below_step hB.out hb)
    obtain ⟨hx0, hx1, hx2⟩ := box3 (blk_below hX.out hb)
    clear hb hB hX
    go_wp2_with fail
    refine (feEmpty_c n m HV.out A k _ (Kd.C_below HR.out HB1.out)).mono ?_
    rintro e w2 ⟨v, rfl, ho, hb2⟩
    obtain ⟨A6, c6, rfl, _⟩ := OI_shape ho
    have HB2 := Aside0.mk (below_step HB1.out hb2)
    clear hb2 ho HB1
    go_wp2
    go_ret
    exact ⟨ret_bool (by simp [few, hg]), HB2.out⟩
set_option maxHeartbeats 800000 in
theorem fePart_c (cells numbers : List Int) (n : Int) (A A1 : Option Addr) (c c1 : Nat) (w : World) (hr : I.C w A cells.length cells) (hr1 : I.C w A1 numbers.length numbers) (hl : numbers.length ≤ cells.length) (hl2 : cells.length ≤ 1000000000) :
    Calls Try.prog 48 #[.slice A cells.length c, .slice A1 numbers.length c1, .int .i64 n] w fun e w' => ∃ v, e = .returned v ∧ OI w' w.heap.size v (part cells numbers n) ∧ Below w.heap.size w w' := by
  have HR := Aside0.mk hr
  have HR1 := Aside0.mk hr1
  clear hr hr1
  go_enter Try.func48, Try.ntmps48
  go_wp2
  go_loopw [7, 12] (fun v i wr => ∃ (k : Nat) (out : List Int), k ≤ numbers.length ∧ i = .int .i64 k ∧ out.length ≤ k ∧ Aside0 (out = partTo cells numbers n k) ∧ Aside0 (OI wr w.heap.size v out) ∧ Aside0 (Below w.heap.size w wr)) (fun _ i _ => numbers.length - (intOf i).toNat)
  case atStart => exact ⟨0, [], Nat.zero_le _, rfl, by simp, ⟨rfl⟩, ⟨OI_nil _ _⟩, ⟨Below.refl _ _⟩⟩
  case round =>
    obtain ⟨k, out, hk, rfl, hol, HO, HV, HB⟩ := hrel
    by_cases hlt : k < numbers.length
    · obtain ⟨ad1, rfl, hc1⟩ := Kd.at_int (Kd.C_below HR1.out HB.out) k (by omega) (by omega)
      obtain ⟨ad, rfl, hc⟩ := Kd.at_int (Kd.C_below HR.out HB.out) k (by omega) (by omega)
      rw [Int.toNat_natCast] at hc hc1
      obtain ⟨A6, c6, rfl, _⟩ := OI_shape HV.out
      by_cases he : rd numbers k = n
      · have he1 : (rd numbers k == n) = true := by simpa using he
        have He := Aside0.mk he
        clear he
        go_wp2_with (at_builtin; refine appI (.tmp 20) (.tmp 25) rfl rfl (.slice A6 out.length c6) out _ rfl rfl HV.out HB.out HB.out.size (by omega) ?_; intro v1 w1 ho hb hg)
        go_roundw
        case rel => exact ⟨k + 1, _, by omega, by go_num, by simp; omega, ⟨by rw [partTo_yes He.out, HO.out]⟩, ⟨ho⟩, ⟨hb⟩⟩
        case measure => simp [intOf]; omega
      · have he1 : (rd numbers k == n) = false := by simpa using he
        go_wp2
        go_roundw
        case rel => exact ⟨k + 1, _, by omega, by go_num, by omega, ⟨by rw [partTo_no he, HO.out]⟩, HV, HB⟩
        case measure => simp [intOf]; omega
    · go_wp2
      go_ret
      exact ⟨_, rfl, by have := HV.out; rwa [HO.out, show k = numbers.length by omega] at this, HB.out⟩
set_option maxHeartbeats 800000 in
theorem cellsWith_c (cells numbers : List Int) (n : Int) (A A1 : Option Addr) (c c1 : Nat) (w : World) (hr : I.C w A cells.length cells) (hr1 : I.C w A1 numbers.length numbers) (hl : numbers.length ≤ cells.length) (hl2 : cells.length ≤ 1000000000) :
    Calls Try.prog 54 #[.slice A cells.length c, .slice A1 numbers.length c1, .int .i64 n] w fun e w' => ∃ v, e = .returned v ∧ OI w' w.heap.size v (part cells numbers n) ∧ Below w.heap.size w w' := by
  have HR := Aside0.mk hr
  have HR1 := Aside0.mk hr1
  clear hr hr1
  go_enter Try.func54, Try.ntmps54
  go_wp2
  have hE := OI_lit0 w w.heap.size (Nat.le_refl _)
  go_loopw [7, 13] (fun v i wr => ∃ (k : Nat) (out : List Int), k ≤ numbers.length ∧ i = .int .i64 k ∧ out.length ≤ k ∧ Aside0 (out = partTo cells numbers n k) ∧ Aside0 (OI wr w.heap.size v out) ∧ Aside0 (Below w.heap.size w wr)) (fun _ i _ => numbers.length - (intOf i).toNat)
  case atStart => exact ⟨0, [], Nat.zero_le _, rfl, by simp, ⟨rfl⟩, ⟨hE⟩, ⟨below_alloc (Below.refl _ _) _⟩⟩
  case round =>
    obtain ⟨k, out, hk, rfl, hol, HO, HV, HB⟩ := hrel
    by_cases hlt : k < numbers.length
    · obtain ⟨ad1, rfl, hc1⟩ := Kd.at_int (Kd.C_below HR1.out HB.out) k (by omega) (by omega)
      obtain ⟨ad, rfl, hc⟩ := Kd.at_int (Kd.C_below HR.out HB.out) k (by omega) (by omega)
      rw [Int.toNat_natCast] at hc hc1
      obtain ⟨A6, c6, rfl, _⟩ := OI_shape HV.out
      by_cases he : rd numbers k = n
      · have he1 : (rd numbers k == n) = true := by simpa using he
        have He := Aside0.mk he
        clear he
        go_wp2_with (at_builtin; refine appI (.tmp 21) (.tmp 26) rfl rfl (.slice A6 out.length c6) out _ rfl rfl HV.out HB.out HB.out.size (by omega) ?_; intro v1 w1 ho hb hg)
        go_roundw
        case rel => exact ⟨k + 1, _, by omega, by go_num, by simp; omega, ⟨by rw [partTo_yes He.out, HO.out]⟩, ⟨ho⟩, ⟨hb⟩⟩
        case measure => simp [intOf]; omega
      · have he1 : (rd numbers k == n) = false := by simpa using he
        go_wp2
        go_roundw
        case rel => exact ⟨k + 1, _, by omega, by go_num, by omega, ⟨by rw [partTo_no he, HO.out]⟩, HV, HB⟩
        case measure => simp [intOf]; omega
    · go_wp2
      go_ret
      exact ⟨_, rfl, by have := HV.out; rwa [HO.out, show k = numbers.length by omega] at this, HB.out⟩
end Go.Proofs.Ytgddmgcneefeeaa.M
