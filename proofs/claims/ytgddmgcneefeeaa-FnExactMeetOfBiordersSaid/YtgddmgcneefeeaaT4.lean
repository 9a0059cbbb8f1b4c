/- Tables: the empty cells; the program's function and the reference's. -/
import Derived.Test.YtgddmgcneefeeaaT3
set_option linter.unusedVariables false
set_option linter.unusedSimpArgs false
namespace Go.Proofs.Ytgddmgcneefeeaa.M
open Go.RowKit Go.Proofs.YtgddmgcneefeeaaW.PrintWords
def rowE (c : Nat) (x : Int) (r j : Nat) : List Int := ((List.range j).filter fun i : Nat => !has x i).map fun i : Nat => (r : Int) * c + i
def empTo (c : Nat) (m : List Int) (r : Nat) : List Int := (List.range r).flatMap fun i : Nat => rowE c (rd m i) i c
def emp (c : Nat) (m : List Int) : List Int := empTo c m m.length
theorem rowE_yes {c : Nat} {x : Int} {r j : Nat} (h : has x j = true) : rowE c x r (j + 1) = rowE c x r j := by simp [rowE, List.range_succ, List.filter_append, h]
theorem rowE_no {c : Nat} {x : Int} {r j : Nat} (h : has x j = false) : rowE c x r (j + 1) = rowE c x r j ++ [(r : Int) * c + j] := by simp [rowE, List.range_succ, List.filter_append, h]
theorem empTo_succ (c : Nat) (m : List Int) (r : Nat) : empTo c m (r + 1) = empTo c m r ++ rowE c (rd m r) r c := by simp [empTo, List.range_succ]
set_option maxHeartbeats 1600000 in
set_option maxRecDepth 100000 in
theorem feEmpty_c (c : Nat) (m : List Int) (hv : VT c m) (A : Option Addr) (k : Nat) (w : World) (hr : I.C w A m.length m) :
    Calls Try.prog 45 #[.agg #[.int .i64 (m.length : Int), .int .i64 (c : Int), .slice A m.length k]] w fun e w' => ∃ v, e = .returned v ∧ OI w' w.heap.size v (emp c m) ∧ Below w.heap.size w w' := by
  have HR := Aside0.mk hr
  have HV := Aside0.mk hv
  have hl6 := hv.l6
  have hc6 := hv.c6
  have hB := Aside0.mk (below_alloc (Below.refl w.heap.size w) (.cells #[.int .i64 (m.length : Int), .int .i64 (c : Int), .slice A m.length k] 29))
  have hX := Aside0.mk (blk_new w (.cells #[.int .i64 (m.length : Int), .int .i64 (c : Int), .slice A m.length k] 29))
  clear hr hv
  go_enter Try.func45, Try.ntmps45
  go_wp2
  go_loopw [3, 10] (fun v i wr => ∃ (r : Nat) (out : List Int), r ≤ m.length ∧ i = .int .i64 r ∧ out.length ≤ 6 * r ∧ Aside0 (out = empTo c m r) ∧ Aside0 (OI wr w.heap.size v out) ∧ Aside0 (Below w.heap.size w wr) ∧
      Aside0 (wr.heap[w.heap.size]? = some (.cells #[.int .i64 (m.length : Int), .int .i64 (c : Int), .slice A m.length k] 29 (0, 0)))) (fun _ i _ => m.length - (intOf i).toNat)
  case atStart => exact ⟨0, [], Nat.zero_le _, rfl, by simp, ⟨rfl⟩, ⟨OI_nil _ _⟩, hB, hX⟩
  case round =>
    clear hB hX
    obtain ⟨r, out, hrm, rfl, hol, HO, HV1, HB, HX⟩ := hrel
    obtain ⟨hx0, hx1, hx2⟩ := box3 HX.out
    by_cases hlt : r < m.length
    · obtain ⟨ad, rfl, hc⟩ := Kd.at_int (Kd.C_below HR.out HB.out) r (by omega) (by omega)
      rw [Int.toNat_natCast] at hc
      have hm0 := rd0 HV.out (i := (r : Int)) (by omega) (by omega)
      obtain ⟨x, hx⟩ : ∃ x, x = rd m r := ⟨_, rfl⟩
      rw [← hx] at hc hm0
      have Hx := Aside0.mk hx
      clear hx
      go_wp2
      go_loopw [3, 6] (fun v i wr => ∃ (j : Nat) (o2 : List Int), j ≤ c ∧ i = .int .i64 j ∧ o2.length ≤ 6 * r + j ∧ Aside0 (o2 = out ++ rowE c x r j) ∧ Aside0 (OI wr w.heap.size v o2) ∧ Aside0 (Below w.heap.size w wr) ∧
        Aside0 (wr.heap[w.heap.size]? = some (.cells #[.int .i64 (m.length : Int), .int .i64 (c : Int), .slice (some ad) m.length k] 29 (0, 0)))) (fun _ i _ => c - (intOf i).toNat)
      case atStart => exact ⟨0, out, Nat.zero_le _, rfl, by omega, ⟨by simp [rowE]⟩, HV1, HB, HX⟩
      case round =>
        clear hc HV1 HB HX hx0 hx1 hx2
        obtain ⟨j, o2, hj, rfl, hol2, HO2, HV2, HB, HX⟩ := hrel
        obtain ⟨hx0, hx1, hx2⟩ := box3 HX.out
        by_cases hjc : j < c
        · cases hb : has x j
          · have hmul : 0 ≤ (r : Int) * c ∧ (r : Int) * c ≤ 36 := ⟨Int.mul_nonneg (by omega) (by omega), by exact_mod_cast Nat.mul_le_mul (show r ≤ 6 by omega) (show c ≤ 6 by omega)⟩
            obtain ⟨A6, c6, rfl, _⟩ := OI_shape HV2.out
            go_wp2_with (first | (go_at_call 73; refine (orHas_c _ _ _ hm0 (by omega) (by omega)).mono ?_; rintro e w' ⟨rfl, rfl⟩) | (at_builtin; refine appI (.tmp 25) (.tmp 32) rfl rfl (.slice A6 o2.length c6) o2 _ rfl rfl HV2.out HB.out HB.out.size (by omega) ?_; intro v1 w1 ho hb1 hg))
            go_roundw
            case rel => exact ⟨j + 1, _, by omega, by go_num, by simp; omega, ⟨by rw [HO2.out, rowE_no hb, List.append_assoc]⟩, ⟨ho⟩, ⟨hb1⟩, ⟨blk_grown HX.out hg (Kd.R_ne HV2.out HX.out (by decide))⟩⟩
            case measure => simp [intOf]; omega
          · go_wp2_with (go_at_call 73; refine (orHas_c _ _ _ hm0 (by omega) (by omega)).mono ?_; rintro e w' ⟨rfl, rfl⟩)
            go_roundw
            case rel => exact ⟨j + 1, o2, by omega, by go_num, by omega, ⟨by rw [HO2.out, rowE_yes hb]⟩, HV2, HB, HX⟩
            case measure => simp [intOf]; omega
        · go_wp2
          go_roundw
          case rel => exact ⟨r + 1, o2, by omega, by go_num, by omega, ⟨by rw [HO2.out, HO.out, empTo_succ, show j = c by omega, Hx.out]⟩, HV2, HB, HX⟩
          case measure => simp [intOf]; omega
    · go_wp2
      go_ret
      exact ⟨_, rfl, by have := HV1.out; rwa [HO.out, show r = m.length by omega] at this, HB.out⟩
set_option maxHeartbeats 1600000 in
set_option maxRecDepth 100000 in
theorem emptyCells_c (c : Nat) (m : List Int) (hv : VT c m) (A : Option Addr) (k : Nat) (w : World) (hr : I.C w A m.length m) :
    Calls Try.prog 55 #[.agg #[.int .i64 (m.length : Int), .int .i64 (c : Int), .slice A m.length k]] w fun e w' => ∃ v, e = .returned v ∧ OI w' w.heap.size v (emp c m) ∧ Below w.heap.size w w' := by
  have HR := Aside0.mk hr
  have HV := Aside0.mk hv
  have hl6 := hv.l6
  have hc6 := hv.c6
  have hB := Aside0.mk (below_alloc (Below.refl w.heap.size w) (.cells #[.int .i64 (m.length : Int), .int .i64 (c : Int), .slice A m.length k] 29))
  have hX := Aside0.mk (blk_new w (.cells #[.int .i64 (m.length : Int), .int .i64 (c : Int), .slice A m.length k] 29))
  clear hr hv
  go_enter Try.func55, Try.ntmps55
  go_wp2
  have hE := OI_lit0 (w.alloc (.cells #[.int .i64 (m.length : Int), .int .i64 (c : Int), .slice A m.length k] 29)) w.heap.size (by simp)
  go_loopw [3, 9] (fun v i wr => ∃ (r : Nat) (out : List Int), r ≤ m.length ∧ i = .int .i64 r ∧ out.length ≤ 6 * r ∧ Aside0 (out = empTo c m r) ∧ Aside0 (OI wr w.heap.size v out) ∧ Aside0 (Below w.heap.size w wr) ∧
      Aside0 (wr.heap[w.heap.size]? = some (.cells #[.int .i64 (m.length : Int), .int .i64 (c : Int), .slice A m.length k] 29 (0, 0)))) (fun _ i _ => m.length - (intOf i).toNat)
  case atStart => exact ⟨0, [], Nat.zero_le _, rfl, by simp, ⟨rfl⟩, ⟨by simpa using hE⟩, ⟨below_alloc hB.out _⟩, ⟨blk_alloc hX.out _⟩⟩
  case round =>
    clear hB hX hE
    obtain ⟨r, out, hrm, rfl, hol, HO, HV1, HB, HX⟩ := hrel
    obtain ⟨hx0, hx1, hx2⟩ := box3 HX.out
    by_cases hlt : r < m.length
    · obtain ⟨ad, rfl, hc⟩ := Kd.at_int (Kd.C_below HR.out HB.out) r (by omega) (by omega)
      rw [Int.toNat_natCast] at hc
      have hm0 := rd0 HV.out (i := (r : Int)) (by omega) (by omega)
      obtain ⟨x, hx⟩ : ∃ x, x = rd m r := ⟨_, rfl⟩
      rw [← hx] at hc hm0
      have Hx := Aside0.mk hx
      clear hx
      go_wp2
      go_loopw [3, 14] (fun v i wr => ∃ (j : Nat) (o2 : List Int), j ≤ c ∧ i = .int .i64 j ∧ o2.length ≤ 6 * r + j ∧ Aside0 (o2 = out ++ rowE c x r j) ∧ Aside0 (OI wr w.heap.size v o2) ∧ Aside0 (Below w.heap.size w wr) ∧
        Aside0 (wr.heap[w.heap.size]? = some (.cells #[.int .i64 (m.length : Int), .int .i64 (c : Int), .slice (some ad) m.length k] 29 (0, 0)))) (fun _ i _ => c - (intOf i).toNat)
      case atStart => exact ⟨0, out, Nat.zero_le _, rfl, by omega, ⟨by simp [rowE]⟩, HV1, HB, HX⟩
      case round =>
        clear hc HV1 HB HX hx0 hx1 hx2
        obtain ⟨j, o2, hj, rfl, hol2, HO2, HV2, HB, HX⟩ := hrel
        obtain ⟨hx0, hx1, hx2⟩ := box3 HX.out
        by_cases hjc : j < c
        · cases hb : has x j
          · have hmul : 0 ≤ (r : Int) * c ∧ (r : Int) * c ≤ 36 := ⟨Int.mul_nonneg (by omega) (by omega), by exact_mod_cast Nat.mul_le_mul (show r ≤ 6 by omega) (show c ≤ 6 by omega)⟩
            obtain ⟨A6, c6, rfl, _⟩ := OI_shape HV2.out
            go_wp2_with fail
            refine (marked_b (b := false) HV.out (by rw [← Hx.out, hb]) (some ad) k _ (Kd.C_below HR.out HB.out) (by omega) (by omega) (by omega) (by omega)).mono ?_
            rintro e w1 ⟨rfl, hbw⟩
            replace HV2 := Aside0.mk (Kd.R_below HV2.out hbw)
            replace HX := Aside0.mk (blk_below HX.out hbw)
            replace HB := Aside0.mk (below_step HB.out hbw)
            obtain ⟨hx0, hx1, hx2⟩ := box3 HX.out
            go_wp2_with (at_builtin; refine appI (.tmp 22) (.tmp 29) rfl rfl (.slice A6 o2.length c6) o2 _ rfl rfl HV2.out HB.out HB.out.size (by omega) ?_; intro v1 w2 ho hb1 hg)
            go_roundw
            case rel => exact ⟨j + 1, _, by omega, by go_num, by simp; omega, ⟨by rw [HO2.out, rowE_no hb, List.append_assoc]⟩, ⟨ho⟩, ⟨hb1⟩, ⟨blk_grown HX.out hg (Kd.R_ne HV2.out HX.out (by decide))⟩⟩
            case measure => simp [intOf]; omega
          · go_wp2_with fail
            refine (marked_b (b := true) HV.out (by rw [← Hx.out, hb]) (some ad) k _ (Kd.C_below HR.out HB.out) (by omega) (by omega) (by omega) (by omega)).mono ?_
            rintro e w1 ⟨rfl, hbw⟩
            replace HV2 := Aside0.mk (Kd.R_below HV2.out hbw)
            replace HX := Aside0.mk (blk_below HX.out hbw)
            replace HB := Aside0.mk (below_step HB.out hbw)
            go_wp2
            go_roundw
            case rel => exact ⟨j + 1, o2, by omega, by go_num, by omega, ⟨by rw [HO2.out, rowE_yes hb]⟩, HV2, HB, HX⟩
            case measure => simp [intOf]; omega
        · go_wp2
          go_roundw
          case rel => exact ⟨r + 1, o2, by omega, by go_num, by omega, ⟨by rw [HO2.out, HO.out, empTo_succ, show j = c by omega, Hx.out]⟩, HV2, HB, HX⟩
          case measure => simp [intOf]; omega
    · go_wp2
      go_ret
      exact ⟨_, rfl, by have := HV1.out; rwa [HO.out, show r = m.length by omega] at this, HB.out⟩
end Go.Proofs.Ytgddmgcneefeeaa.M
