/- Kinds of orders: the program's functions and the reference's. -/
import Derived.Test.YtgffgmfjoepjoaaDoorOE
set_option linter.unusedVariables false
set_option linter.unusedSimpArgs false
namespace Go.Proofs.YtgffgmfjoepjoaaDoor.M
open Go.RowKit Go.Proofs.YtgffgmfjoepjoaaDoorW.PrintWords
set_option maxHeartbeats 800000 in
set_option maxRecDepth 100000 in
theorem isInterval_c (s : Int) (l : List Int) (A : Option Addr) (k : Nat) (w : World) (hr : I.C w A l.length l) (hT : DB w) :
    Calls Tryd.prog 107 #[.agg #[.int .i64 s, .slice A l.length k]] w fun e w' => e = .returned (.bool (intB s l)) ∧ Below w.heap.size w w' := by
  have hB := Aside0.mk (below_alloc (Below.refl w.heap.size w) (.cells #[.int .i64 s, .slice A l.length k] 34))
  have hX := Aside0.mk (blk_new w (.cells #[.int .i64 s, .slice A l.length k] 34))
  have HR := Aside0.mk (Kd.C_below hr hB.out)
  have HT := Aside0.mk (hT.below hB.out)
  clear hr hT
  cases ho : ordB s l
  · have Hf : Aside0 (intB s l = false) := ⟨by rw [intB, ho]; rfl⟩
    have HO := Aside0.mk ho
    clear ho
    go_enter Tryd.func107, Tryd.ntmps107
    go_wp2_with fail
    refine (IsOrder_b HO.out A k _ HR.out HT.out).mono ?_
    rintro e w1 ⟨rfl, hb⟩
    go_wp2
    go_ret
    exact ⟨ret_bool Hf.out.symm, below_step hB.out hb⟩
  · obtain ⟨rfl, hv⟩ := ord_IsOrd ho
    have HV := Aside0.mk hv.vo
    have HO := Aside0.mk ho
    clear ho hv
    go_enter Tryd.func107, Tryd.ntmps107
    go_wp2_with fail
    refine (IsOrder_b HO.out A k _ HR.out HT.out).mono ?_
    rintro e w1 ⟨rfl, hb⟩
    have HB1 := Aside0.mk (below_step hB.out hb)
    have HR1 := Aside0.mk (Kd.C_below HR.out hb)
    obtain ⟨hx0, hx1⟩ := box2 (blk_below hX.out hb)
    clear hb
    go_wp2_with fail
    refine (twoTwo_c l HV.out A k _ HR1.out).mono ?_
    rintro e w2 ⟨v2, rfl, ho2, hb2⟩
    have HB2 := Aside0.mk (below_step HB1.out hb2)
    have Hf : Aside0 (intB l.length l = (ttF l).isNone) := ⟨by rw [intB, HO.out]; rfl⟩
    rcases optI_shape ho2 with ⟨rfl, hz⟩ | ⟨ad2, n2, c2, rfl, hz⟩
    · have hnn := fun w => eqn_none w
      rw [hz] at Hf
      clear ho2 hb2 hx0 hx1 hz
      go_wp2
      go_ret
      exact ⟨ret_bool Hf.out.symm, HB2.out⟩
    · have hnn := fun w => eqn_some w ad2 n2 c2
      rw [hz] at Hf
      clear ho2 hb2 hx0 hx1 hz
      go_wp2
      go_ret
      exact ⟨ret_bool Hf.out.symm, HB2.out⟩
theorem isInterval_b {s : Int} {l : List Int} {b : Bool} (h : intB s l = b) (A : Option Addr) (k : Nat) (w : World) (hr : I.C w A l.length l) (hT : DB w) :
    Calls Tryd.prog 107 #[.agg #[.int .i64 s, .slice A l.length k]] w fun e w' => e = .returned (.bool b) ∧ Below w.heap.size w w' := by subst h; exact isInterval_c s l A k w hr hT
theorem int_ord {s : Int} {l : List Int} (h : intB s l = true) : ordB s l = true := by
  rw [intB, Bool.and_eq_true] at h; exact h.1
set_option maxHeartbeats 800000 in
set_option maxRecDepth 100000 in
theorem isSemi_c (s : Int) (l : List Int) (A : Option Addr) (k : Nat) (w : World) (hr : I.C w A l.length l) (hT : DB w) :
    Calls Tryd.prog 182 #[.agg #[.int .i64 s, .slice A l.length k]] w fun e w' => e = .returned (.bool (semiB s l)) ∧ Below w.heap.size w w' := by
  have hB := Aside0.mk (below_alloc (Below.refl w.heap.size w) (.cells #[.int .i64 s, .slice A l.length k] 34))
  have hX := Aside0.mk (blk_new w (.cells #[.int .i64 s, .slice A l.length k] 34))
  have HR := Aside0.mk (Kd.C_below hr hB.out)
  have HT := Aside0.mk (hT.below hB.out)
  clear hr hT
  cases ho : intB s l
  · have Hf : Aside0 (semiB s l = false) := ⟨by rw [semiB, ho]; rfl⟩
    have HO := Aside0.mk ho
    clear ho
    go_enter Tryd.func182, Tryd.ntmps182
    go_wp2_with fail
    refine (isInterval_b HO.out A k _ HR.out HT.out).mono ?_
    rintro e w1 ⟨rfl, hb⟩
    go_wp2
    go_ret
    exact ⟨ret_bool Hf.out.symm, below_step hB.out hb⟩
  · obtain ⟨rfl, hv⟩ := ord_IsOrd (int_ord ho)
    have HV := Aside0.mk hv.vo
    have HO := Aside0.mk ho
    clear ho hv
    go_enter Tryd.func182, Tryd.ntmps182
    go_wp2_with fail
    refine (isInterval_b HO.out A k _ HR.out HT.out).mono ?_
    rintro e w1 ⟨rfl, hb⟩
    have HB1 := Aside0.mk (below_step hB.out hb)
    have HR1 := Aside0.mk (Kd.C_below HR.out hb)
    have HT1 := Aside0.mk (HT.out.below hb)
    obtain ⟨hx0, hx1⟩ := box2 (blk_below hX.out hb)
    clear hb
    go_wp2_with fail
    refine (threeOne_c l HV.out A k _ HR1.out HT1.out).mono ?_
    rintro e w2 ⟨v2, rfl, ho2, hb2⟩
    have HB2 := Aside0.mk (below_step HB1.out hb2)
    have Hf : Aside0 (semiB l.length l = (thF l).isNone) := ⟨by rw [semiB, HO.out]; rfl⟩
    rcases optI_shape ho2 with ⟨rfl, hz⟩ | ⟨ad2, n2, c2, rfl, hz⟩
    · have hnn := fun w => eqn_none w
      rw [hz] at Hf
      clear ho2 hb2 hx0 hx1 hz
      go_wp2
      go_ret
      exact ⟨ret_bool Hf.out.symm, HB2.out⟩
    · have hnn := fun w => eqn_some w ad2 n2 c2
      rw [hz] at Hf
      clear ho2 hb2 hx0 hx1 hz
      go_wp2
      go_ret
      exact ⟨ret_bool Hf.out.symm, HB2.out⟩
theorem kind_tests {kind : Int} {c : Int} : (kind == c) = decide (kind = c) := by by_cases h : kind = c <;> simp [h]
set_option maxHeartbeats 1600000 in
set_option maxRecDepth 100000 in
theorem isKind_c (s : Int) (l : List Int) (kind : Int) (A : Option Addr) (k : Nat) (w : World) (hr : I.C w A l.length l) (hT : DB w) :
    Calls Tryd.prog 159 #[.agg #[.int .i64 s, .slice A l.length k], .int .i64 kind] w fun e w' => e = .returned (.bool (kindB s l kind)) ∧ Below w.heap.size w w' := by
  have hB := Aside0.mk (below_alloc (Below.refl w.heap.size w) (.cells #[.int .i64 s, .slice A l.length k] 34))
  have hX := Aside0.mk (blk_new w (.cells #[.int .i64 s, .slice A l.length k] 34))
  have HR := Aside0.mk (Kd.C_below hr hB.out)
  have HT := Aside0.mk (hT.below hB.out)
  clear hr hT
  by_cases h0 : kind = 0
  · subst h0
    cases ho : ordB s l
    · have Hf : Aside0 (kindB s l 0 = false) := ⟨by rw [kindB, if_pos rfl, weakB, ho]; rfl⟩
      have HO := Aside0.mk ho
      clear ho
      go_enter Tryd.func159, Tryd.ntmps159
      go_wp2_with fail
      refine (IsOrder_b HO.out A k _ HR.out HT.out).mono ?_
      rintro e w1 ⟨rfl, hb⟩
      go_wp2
      go_ret
      exact ⟨ret_bool Hf.out.symm, below_step hB.out hb⟩
    · obtain ⟨rfl, hv⟩ := ord_IsOrd ho
      have HV := Aside0.mk hv.vo
      have HO := Aside0.mk ho
      clear ho hv
      go_enter Tryd.func159, Tryd.ntmps159
      go_wp2_with fail
      refine (IsOrder_b HO.out A k _ HR.out HT.out).mono ?_
      rintro e w1 ⟨rfl, hb⟩
      have HB1 := Aside0.mk (below_step hB.out hb)
      have HR1 := Aside0.mk (Kd.C_below HR.out hb)
      have HT1 := Aside0.mk (HT.out.below hb)
      obtain ⟨hx0, hx1⟩ := box2 (blk_below hX.out hb)
      clear hb
      go_wp2_with fail
      refine (twoOne_c l HV.out A k _ HR1.out HT1.out).mono ?_
      rintro e w2 ⟨v2, rfl, ho2, hb2⟩
      have HB2 := Aside0.mk (below_step HB1.out hb2)
      have Hf : Aside0 (kindB l.length l 0 = (twoF l).isNone) := ⟨by rw [kindB, if_pos rfl, weakB, HO.out]; rfl⟩
      rcases optI_shape ho2 with ⟨rfl, hz⟩ | ⟨ad2, n2, c2, rfl, hz⟩
      · have hnn := fun w => eqn_none w
        rw [hz] at Hf
        clear ho2 hb2 hx0 hx1 hz
        go_wp2
        go_ret
        exact ⟨ret_bool Hf.out.symm, HB2.out⟩
      · have hnn := fun w => eqn_some w ad2 n2 c2
        rw [hz] at Hf
        clear ho2 hb2 hx0 hx1 hz
        go_wp2
        go_ret
        exact ⟨ret_bool Hf.out.symm, HB2.out⟩
  · have hk0 : (kind == 0) = false := by simp [h0]
    by_cases h1 : kind = 1
    · subst h1
      have Hf : Aside0 (kindB s l 1 = semiB s l) := ⟨by rw [kindB, if_neg (by decide), if_pos rfl]⟩
      clear h0 hk0
      go_enter Tryd.func159, Tryd.ntmps159
      go_wp2_with fail
      refine (isSemi_c s l A k _ HR.out HT.out).mono ?_
      rintro e w1 ⟨rfl, hb⟩
      go_wp2
      go_ret
      exact ⟨ret_bool Hf.out.symm, below_step hB.out hb⟩
    · have hk1 : (kind == 1) = false := by simp [h1]
      by_cases h2 : kind = 2
      · subst h2
        have Hf : Aside0 (kindB s l 2 = intB s l) := ⟨by rw [kindB, if_neg (by decide), if_neg (by decide), if_pos rfl]⟩
        clear h0 hk0 h1 hk1
        go_enter Tryd.func159, Tryd.ntmps159
        go_wp2_with fail
        refine (isInterval_c s l A k _ HR.out HT.out).mono ?_
        rintro e w1 ⟨rfl, hb⟩
        go_wp2
        go_ret
        exact ⟨ret_bool Hf.out.symm, below_step hB.out hb⟩
      · have hk2 : (kind == 2) = false := by simp [h2]
        have Hf : Aside0 (kindB s l kind = ordB s l) := ⟨by rw [kindB, if_neg h0, if_neg h1, if_neg h2]⟩
        clear h0 h1 h2
        go_enter Tryd.func159, Tryd.ntmps159
        go_wp2_with fail
        refine (IsOrder_c s l A k _ HR.out HT.out).mono ?_
        rintro e w1 ⟨rfl, hb⟩
        go_wp2
        go_ret
        exact ⟨ret_bool Hf.out.symm, below_step hB.out hb⟩
end Go.Proofs.YtgffgmfjoepjoaaDoor.M
