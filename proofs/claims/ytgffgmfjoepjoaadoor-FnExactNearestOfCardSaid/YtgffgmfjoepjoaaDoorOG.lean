/- Kinds of orders: the reference's functions. -/
import Derived.Test.YtgffgmfjoepjoaaDoorOF
set_option linter.unusedVariables false
set_option linter.unusedSimpArgs false
namespace Go.Proofs.YtgffgmfjoepjoaaDoor.M
open Go.RowKit Go.Proofs.YtgffgmfjoepjoaaDoorW.PrintWords
set_option maxHeartbeats 800000 in
theorem specTwoOne_n (s : Int) (l : List Int) (ho : ordB s l = false) (A : Option Addr) (k : Nat) (w : World) (hr : I.C w A l.length l) :
    Calls Tryd.prog 193 #[.agg #[.int .i64 s, .slice A l.length k]] w fun e w' => e = .returned (.tuple #[.slice none 0 0, .bool false]) ∧ Below w.heap.size w w' := by
  have HO := Aside0.mk ho
  have hB := Aside0.mk (below_alloc (Below.refl w.heap.size w) (.cells #[.int .i64 s, .slice A l.length k] 34))
  have hX := Aside0.mk (blk_new w (.cells #[.int .i64 s, .slice A l.length k] 34))
  have HR := Aside0.mk (Kd.C_below hr hB.out)
  clear hr ho
  go_enter Tryd.func193, Tryd.ntmps193
  go_wp2_with fail
  refine (orGood_b HO.out A k _ HR.out).mono ?_
  rintro e w1 ⟨rfl, hb⟩
  go_wp2
  go_ret2
  exact ⟨rfl, below_step hB.out hb⟩
set_option maxHeartbeats 800000 in
theorem specThreeOne_n (s : Int) (l : List Int) (ho : ordB s l = false) (A : Option Addr) (k : Nat) (w : World) (hr : I.C w A l.length l) :
    Calls Tryd.prog 194 #[.agg #[.int .i64 s, .slice A l.length k]] w fun e w' => e = .returned (.tuple #[.slice none 0 0, .bool false]) ∧ Below w.heap.size w w' := by
  have HO := Aside0.mk ho
  have hB := Aside0.mk (below_alloc (Below.refl w.heap.size w) (.cells #[.int .i64 s, .slice A l.length k] 34))
  have hX := Aside0.mk (blk_new w (.cells #[.int .i64 s, .slice A l.length k] 34))
  have HR := Aside0.mk (Kd.C_below hr hB.out)
  clear hr ho
  go_enter Tryd.func194, Tryd.ntmps194
  go_wp2_with fail
  refine (orGood_b HO.out A k _ HR.out).mono ?_
  rintro e w1 ⟨rfl, hb⟩
  go_wp2
  go_ret2
  exact ⟨rfl, below_step hB.out hb⟩
/-- Whether there is a list, whatever the relation. -/
theorem specTwoOne_any (s : Int) (l : List Int) (A : Option Addr) (k : Nat) (w : World) (hr : I.C w A l.length l) :
    Calls Tryd.prog 193 #[.agg #[.int .i64 s, .slice A l.length k]] w fun e w' => ∃ v, e = .returned (.tuple #[v, .bool (ordB s l && (twoF l).isSome)]) ∧ Below w.heap.size w w' := by
  cases ho : ordB s l
  · refine (specTwoOne_n s l ho A k w hr).mono ?_
    rintro e w' ⟨rfl, h⟩
    exact ⟨_, rfl, h⟩
  · obtain ⟨rfl, hv⟩ := ord_IsOrd ho
    refine (specTwoOne_y l hv A k w hr).mono ?_
    rintro e w' ⟨v, rfl, _, h⟩
    exact ⟨_, rfl, h⟩
theorem specThreeOne_any (s : Int) (l : List Int) (A : Option Addr) (k : Nat) (w : World) (hr : I.C w A l.length l) :
    Calls Tryd.prog 194 #[.agg #[.int .i64 s, .slice A l.length k]] w fun e w' => ∃ v, e = .returned (.tuple #[v, .bool (ordB s l && (thF l).isSome)]) ∧ Below w.heap.size w w' := by
  cases ho : ordB s l
  · refine (specThreeOne_n s l ho A k w hr).mono ?_
    rintro e w' ⟨rfl, h⟩
    exact ⟨_, rfl, h⟩
  · obtain ⟨rfl, hv⟩ := ord_IsOrd ho
    refine (specThreeOne_y l hv A k w hr).mono ?_
    rintro e w' ⟨v, rfl, _, h⟩
    exact ⟨_, rfl, h⟩
set_option maxHeartbeats 800000 in
set_option maxRecDepth 100000 in
theorem weGood_c (s : Int) (l : List Int) (A : Option Addr) (k : Nat) (w : World) (hr : I.C w A l.length l) :
    Calls Tryd.prog 178 #[.agg #[.int .i64 s, .slice A l.length k]] w fun e w' => e = .returned (.bool (weakB s l)) ∧ Below w.heap.size w w' := by
  have hB := Aside0.mk (below_alloc (Below.refl w.heap.size w) (.cells #[.int .i64 s, .slice A l.length k] 34))
  have hX := Aside0.mk (blk_new w (.cells #[.int .i64 s, .slice A l.length k] 34))
  have HR := Aside0.mk (Kd.C_below hr hB.out)
  clear hr
  obtain ⟨q, hq⟩ : ∃ q, (ordB s l && (twoF l).isSome) = q := ⟨_, rfl⟩
  have HQ := Aside0.mk hq
  have HTW := Aside0.mk (specTwoOne_any s l A k)
  rw [hq] at HTW
  clear hq
  obtain ⟨p, hp⟩ : ∃ p, ordB s l = p := ⟨_, rfl⟩
  have HP := Aside0.mk hp
  clear hp
  have Hf : Aside0 (weakB s l = (p && !q)) := ⟨by rw [weakB, ← HQ.out, HP.out]; cases p <;> cases (twoF l) <;> rfl⟩
  cases p
  all_goals
    go_enter Tryd.func178, Tryd.ntmps178
    go_wp2_with fail
    refine (HTW.out _ HR.out).mono ?_
    rintro e w1 ⟨v1, rfl, hb⟩
    have HB1 := Aside0.mk (below_step hB.out hb)
    have HR1 := Aside0.mk (Kd.C_below HR.out hb)
    obtain ⟨hx0, hx1⟩ := box2 (blk_below hX.out hb)
    clear hb
    go_wp2_with fail
    refine (orGood_b HP.out A k _ HR1.out).mono ?_
    rintro e w2 ⟨rfl, hb⟩
    go_wp2
    go_ret
    exact ⟨ret_bool (by rw [Hf.out]; simp), below_step HB1.out hb⟩
set_option maxHeartbeats 800000 in
set_option maxRecDepth 100000 in
theorem seGood_c (s : Int) (l : List Int) (A : Option Addr) (k : Nat) (w : World) (hr : I.C w A l.length l) :
    Calls Tryd.prog 179 #[.agg #[.int .i64 s, .slice A l.length k]] w fun e w' => e = .returned (.bool (semiB s l)) ∧ Below w.heap.size w w' := by
  have hB := Aside0.mk (below_alloc (Below.refl w.heap.size w) (.cells #[.int .i64 s, .slice A l.length k] 34))
  have hX := Aside0.mk (blk_new w (.cells #[.int .i64 s, .slice A l.length k] 34))
  have HR := Aside0.mk (Kd.C_below hr hB.out)
  clear hr
  obtain ⟨q, hq⟩ : ∃ q, (ordB s l && (thF l).isSome) = q := ⟨_, rfl⟩
  have HQ := Aside0.mk hq
  have HTW := Aside0.mk (specThreeOne_any s l A k)
  rw [hq] at HTW
  clear hq
  cases hp : ordB s l
  · have HP := Aside0.mk hp
    have Hf : Aside0 (semiB s l = false) := ⟨by rw [semiB, intB, hp]; rfl⟩
    clear hp
    go_enter Tryd.func179, Tryd.ntmps179
    go_wp2_with fail
    refine (HTW.out _ HR.out).mono ?_
    rintro e w1 ⟨v1, rfl, hb⟩
    have HB1 := Aside0.mk (below_step hB.out hb)
    have HR1 := Aside0.mk (Kd.C_below HR.out hb)
    obtain ⟨hx0, hx1⟩ := box2 (blk_below hX.out hb)
    clear hb
    go_wp2_with fail
    refine (orGood_b HP.out A k _ HR1.out).mono ?_
    rintro e w2 ⟨rfl, hb⟩
    go_wp2
    go_ret
    exact ⟨ret_bool Hf.out.symm, below_step HB1.out hb⟩
  · have HP := Aside0.mk hp
    obtain ⟨rfl, hv⟩ := ord_IsOrd hp
    have Hss := Aside0.mk (ss_tt hv)
    have HV := Aside0.mk hv.vo
    have HQ2 : Aside0 (q = (thF l).isSome) := ⟨by rw [← HQ.out, hp]; rfl⟩
    have Hf : Aside0 (semiB l.length l = (!q && !(ssF l).isSome)) := ⟨by rw [semiB, intB, hp, HQ2.out, Hss.out]; cases (ttF l) <;> cases (thF l) <;> rfl⟩
    clear hp hv
    cases q
    all_goals
      go_enter Tryd.func179, Tryd.ntmps179
      go_wp2_with fail
      refine (HTW.out _ HR.out).mono ?_
      rintro e w1 ⟨v1, rfl, hb⟩
      have HB1 := Aside0.mk (below_step hB.out hb)
      have HR1 := Aside0.mk (Kd.C_below HR.out hb)
      have HX1 := Aside0.mk (blk_below hX.out hb)
      obtain ⟨hx0, hx1⟩ := box2 HX1.out
      clear hb
      go_wp2_with fail
      refine (orGood_b HP.out A k _ HR1.out).mono ?_
      rintro e w2 ⟨rfl, hb⟩
      have HB2 := Aside0.mk (below_step HB1.out hb)
      have HR2 := Aside0.mk (Kd.C_below HR1.out hb)
      clear hx0 hx1
      obtain ⟨hx0, hx1⟩ := box2 (blk_below HX1.out hb)
      clear hb
    · go_wp2_with fail
      refine (seTwoTwo_c l HV.out A k _ HR2.out).mono ?_
      rintro e w3 ⟨rfl, hb⟩
      go_wp2
      go_ret
      exact ⟨ret_bool (by rw [Hf.out]; cases (ssF l) <;> rfl), below_step HB2.out hb⟩
    · go_wp2
      go_ret
      exact ⟨ret_bool (by rw [Hf.out]; rfl), HB2.out⟩
set_option maxHeartbeats 1600000 in
set_option maxRecDepth 100000 in
theorem cfKind_c (s : Int) (l : List Int) (kind : Int) (A : Option Addr) (k : Nat) (w : World) (hr : I.C w A l.length l) :
    Calls Tryd.prog 155 #[.agg #[.int .i64 s, .slice A l.length k], .int .i64 kind] w fun e w' => e = .returned (.bool (kindB s l kind)) ∧ Below w.heap.size w w' := by
  have hB := Aside0.mk (below_alloc (Below.refl w.heap.size w) (.cells #[.int .i64 s, .slice A l.length k] 34))
  have hX := Aside0.mk (blk_new w (.cells #[.int .i64 s, .slice A l.length k] 34))
  have HR := Aside0.mk (Kd.C_below hr hB.out)
  clear hr
  by_cases h0 : kind = 0
  · subst h0
    have Hf : Aside0 (kindB s l 0 = weakB s l) := ⟨by rw [kindB, if_pos rfl]⟩
    go_enter Tryd.func155, Tryd.ntmps155
    go_wp2_with fail
    refine (weGood_c s l A k _ HR.out).mono ?_
    rintro e w1 ⟨rfl, hb⟩
    go_wp2
    go_ret
    exact ⟨ret_bool Hf.out.symm, below_step hB.out hb⟩
  · have hk0 : (kind == 0) = false := by simp [h0]
    by_cases h1 : kind = 1
    · subst h1
      have Hf : Aside0 (kindB s l 1 = semiB s l) := ⟨by rw [kindB, if_neg (by decide), if_pos rfl]⟩
      clear h0 hk0
      go_enter Tryd.func155, Tryd.ntmps155
      go_wp2_with fail
      refine (seGood_c s l A k _ HR.out).mono ?_
      rintro e w1 ⟨rfl, hb⟩
      go_wp2
      go_ret
      exact ⟨ret_bool Hf.out.symm, below_step hB.out hb⟩
    · have hk1 : (kind == 1) = false := by simp [h1]
      by_cases h2 : kind = 2
      · subst h2
        clear h0 hk0 h1 hk1
        cases hp : ordB s l
        · have HP := Aside0.mk hp
          have Hf : Aside0 (kindB s l 2 = false) := ⟨by rw [kindB, if_neg (by decide), if_neg (by decide), if_pos rfl, intB, hp]; rfl⟩
          clear hp
          go_enter Tryd.func155, Tryd.ntmps155
          go_wp2_with fail
          refine (orGood_b HP.out A k _ HR.out).mono ?_
          rintro e w1 ⟨rfl, hb⟩
          go_wp2
          go_ret
          exact ⟨ret_bool Hf.out.symm, below_step hB.out hb⟩
        · have HP := Aside0.mk hp
          obtain ⟨rfl, hv⟩ := ord_IsOrd hp
          have Hss := Aside0.mk (ss_tt hv)
          have HV := Aside0.mk hv.vo
          have Hf : Aside0 (kindB l.length l 2 = !(ssF l).isSome) := ⟨by rw [kindB, if_neg (by decide), if_neg (by decide), if_pos rfl, intB, hp, Hss.out]; cases (ttF l) <;> rfl⟩
          clear hp hv
          go_enter Tryd.func155, Tryd.ntmps155
          go_wp2_with fail
          refine (orGood_b HP.out A k _ HR.out).mono ?_
          rintro e w1 ⟨rfl, hb⟩
          have HB1 := Aside0.mk (below_step hB.out hb)
          have HR1 := Aside0.mk (Kd.C_below HR.out hb)
          obtain ⟨hx0, hx1⟩ := box2 (blk_below hX.out hb)
          clear hb
          go_wp2_with fail
          refine (seTwoTwo_c l HV.out A k _ HR1.out).mono ?_
          rintro e w2 ⟨rfl, hb⟩
          go_wp2
          go_ret
          exact ⟨ret_bool (by rw [Hf.out]; cases (ssF l) <;> rfl), below_step HB1.out hb⟩
      · have hk2 : (kind == 2) = false := by simp [h2]
        have Hf : Aside0 (kindB s l kind = ordB s l) := ⟨by rw [kindB, if_neg h0, if_neg h1, if_neg h2]⟩
        clear h0 h1 h2
        go_enter Tryd.func155, Tryd.ntmps155
        go_wp2_with fail
        refine (orGood_c s l A k _ HR.out).mono ?_
        rintro e w1 ⟨rfl, hb⟩
        go_wp2
        go_ret
        exact ⟨ret_bool Hf.out.symm, below_step hB.out hb⟩
end Go.Proofs.YtgffgmfjoepjoaaDoor.M
