/- The law FnExactNearestOf: its walk. -/
import Derived.Test.YtgffgmfjoepjoaaDoorN3
set_option linter.unusedVariables false
set_option linter.unusedSimpArgs false
namespace Go.Proofs.YtgffgmfjoepjoaaDoor.M
open Go.RowKit Go.Proofs.YtgffgmfjoepjoaaDoorW.PrintWords
theorem box22 {w' : World} {a b c d : Value} {g g1 t t1 : Nat} (h : w'.heap[g]? = some (.cells #[a, b] t (0, 0))) (h1 : w'.heap[g1]? = some (.cells #[c, d] t1 (0, 0))) :
    w'.cell? ⟨g, 0, none⟩ = some a ∧ w'.cell? ⟨g, 1, none⟩ = some b ∧ w'.cell? ⟨g1, 0, none⟩ = some c ∧ w'.cell? ⟨g1, 1, none⟩ = some d := ⟨(box2 h).1, (box2 h).2, (box2 h1).1, (box2 h1).2⟩
set_option maxHeartbeats 3200000 in
set_option maxRecDepth 100000 in
theorem law_near (s kind : Int) (l : List Int) (A : Option Addr) (k : Nat) (w : World) (hr : I.C w A l.length l) (hT : DB w) :
    Calls Tryd.prog 8 #[.agg #[.int .i64 s, .slice A l.length k], .int .i64 kind] w fun e w' => e = .returned (.bool true) ∧ Below w.heap.size w w' := by
  have HT := Aside0.mk hT
  have HR := Aside0.mk hr
  have hmax := hr.2.1
  have hX := Aside0.mk (blk_new w (.cells #[.int .i64 s, .slice A l.length k] 61))
  have hB := Aside0.mk (below_alloc (Below.refl w.heap.size w) (.cells #[.int .i64 s, .slice A l.length k] 61))
  clear hr hT
  by_cases hs : (1048576 : Int) - l.length < 0
  · have hz : Aside0 (szI l.length 1048576 = -1) := ⟨by rw [szI, if_pos hs]⟩
    clear hs
    go_enter Tryd.func8, Tryd.ntmps8
    go_wp2_with fail
    refine (szOrder_b hz.out s A k _ (by omega) (by omega) hmax).mono ?_
    rintro e w1 ⟨rfl, hb⟩
    go_wp2
    go_ret
    exact ⟨rfl, below_step hB.out hb⟩
  · have hz : Aside0 (szI l.length 1048576 = 1048576 - l.length) := ⟨by rw [szI, if_neg hs]⟩
    obtain ⟨z, hz1, hz0⟩ : ∃ z : Int, Aside0 (szI l.length 1048576 = z) ∧ 0 ≤ z := ⟨_, hz, by omega⟩
    have hml : l.length ≤ 1000000000 := by omega
    have hzn : decide (z < 0) = false := by simp; omega
    have hlen := nrF_len s kind l
    obtain ⟨b, hbe⟩ : ∃ b, okN s kind l = b := ⟨_, rfl⟩
    obtain ⟨F, hF⟩ : ∃ F, nrF s kind l = F := ⟨_, rfl⟩
    have HSM : Aside0 (∀ (A : Option Addr) (k : Nat) (w : World), I.C w A l.length l → Calls Tryd.prog 52 #[.agg #[.int .i64 s, .slice A l.length k], .int .i64 kind] w fun e w' => ∃ A1 c1, e = .returned (.tuple #[.agg #[.int .i64 F.1.1, .slice A1 F.1.2.length c1], .int .i64 F.2, .bool b]) ∧ OI w' w.heap.size (.slice A1 F.1.2.length c1) F.1.2 ∧ Below w.heap.size w w') := ⟨by
      intro A k w hr; have := specNear_c s kind l A k w hr; unfold NearC at this; rwa [hbe, hF] at this⟩
    have HIM : Aside0 (∀ (A : Option Addr) (k : Nat) (w : World), I.C w A l.length l → DB w → Calls Tryd.prog 54 #[.agg #[.int .i64 s, .slice A l.length k], .int .i64 kind] w fun e w' => ∃ A1 c1, e = .returned (.tuple #[.agg #[.int .i64 F.1.1, .slice A1 F.1.2.length c1], .int .i64 F.2, .bool b]) ∧ OI w' w.heap.size (.slice A1 F.1.2.length c1) F.1.2 ∧ Below w.heap.size w w') := ⟨by
      intro A k w hr hT; have := implNear_c s kind l A k w hr hT; unfold NearC at this; rwa [hbe, hF] at this⟩
    rw [hF] at hlen
    obtain ⟨⟨r, xs⟩, d⟩ := F
    simp only at hlen HSM HIM
    have hbb : (b != b) = false := by simp
    have hdd : (d != d) = false := by simp
    have hkn : decide (1 + (l.length : Int) < 0) = false := by simp; omega
    have hqn : decide (1 + (xs.length : Int) < 0) = false := by simp; omega
    clear hs hz hbe hF
    go_enter Tryd.func8, Tryd.ntmps8
    go_wp2_with fail
    refine (szOrder_b hz1.out s A k _ (by omega) (by omega) hmax).mono ?_
    rintro e w1 ⟨rfl, hb⟩
    have HB1 := Aside0.mk (below_step hB.out hb)
    have HX1 := Aside0.mk (blk_below hX.out hb)
    obtain ⟨hx0, hx1⟩ := box2 HX1.out
    clear hb hB hX
    go_wp2_with fail
    refine (toOrder_c s l A k _ (Kd.C_below HR.out HB1.out) hml).mono ?_
    rintro e w2 ⟨v2, rfl, ho2, hb2⟩
    obtain ⟨A2, c2, rfl, hc2, _⟩ := OI_shape ho2
    have HO2 := Aside0.mk (OI_C ho2)
    have HB2 := Aside0.mk (below_step HB1.out hb2)
    have HX2 := Aside0.mk (blk_below HX1.out hb2)
    clear hb2 ho2 hx0 hx1 HB1 HX1
    go_wp2_with fail
    refine (HSM.out A2 c2 _ HO2.out).mono ?_
    rintro e w3 ⟨A3, c3, rfl, ho3, hb3⟩
    have HC3 := Aside0.mk (Kd.C_alloc (OI_C ho3) (.cells #[.int .i64 r, .slice A3 xs.length c3] 34))
    have HB3 := Aside0.mk (below_alloc (below_step HB2.out hb3) (.cells #[.int .i64 r, .slice A3 xs.length c3] 34))
    have HX3 := Aside0.mk (blk_alloc (blk_below HX2.out hb3) (.cells #[.int .i64 r, .slice A3 xs.length c3] 34))
    have HG6 := Aside0.mk (blk_new w3 (.cells #[.int .i64 r, .slice A3 xs.length c3] 34))
    clear hb3 ho3 HB2 HX2 HO2
    obtain ⟨hx0, hx1⟩ := box2 HX3.out
    go_wp2_with fail
    obtain ⟨g6, hg6, HG6e⟩ : ∃ g6, w3.heap.size = g6 ∧ Aside0 (w3.heap.size = g6) := ⟨_, rfl, ⟨rfl⟩⟩
    obtain ⟨W3, hW3⟩ : ∃ W3, w3.alloc (.cells #[.int .i64 r, .slice A3 xs.length c3] 34) = W3 := ⟨_, rfl⟩
    rw [hW3] at HC3 HB3 HX3 HG6 hx0 hx1 ⊢
    rw [hg6] at HG6 ⊢
    clear hg6 hW3 HG6e
    refine (toOrder_c s l A k _ (Kd.C_below HR.out HB3.out) hml).mono ?_
    rintro e w4 ⟨v4, rfl, ho4, hb4⟩
    obtain ⟨A4, c4, rfl, hc4, _⟩ := OI_shape ho4
    have HO4 := Aside0.mk (Kd.R_alloc ho4 (.cells #[.int .i64 s, .slice A4 l.length c4] 34))
    have HB4 := Aside0.mk (below_alloc hb4 (.cells #[.int .i64 s, .slice A4 l.length c4] 34))
    have HG9 := Aside0.mk (blk_new w4 (.cells #[.int .i64 s, .slice A4 l.length c4] 34))
    clear ho4 hb4 hx0 hx1
    go_wp2_with fail
    obtain ⟨g9, hg9⟩ : ∃ g9, w4.heap.size = g9 := ⟨_, rfl⟩
    obtain ⟨W4, hW4⟩ : ∃ W4, w4.alloc (.cells #[.int .i64 s, .slice A4 l.length c4] 34) = W4 := ⟨_, rfl⟩
    rw [hW4] at HO4 HB4 HG9 ⊢
    rw [hg9] at HG9 ⊢
    clear hg9 hW4
    refine (HIM.out A4 c4 _ (OI_C HO4.out) (HT.out.below (below_step HB3.out HB4.out))).mono ?_
    rintro e w5 ⟨A5, c5, rfl, ho5, hb5⟩
    have HO5 := Aside0.mk (Kd.R_alloc ho5 (.cells #[.int .i64 r, .slice A5 xs.length c5] 34))
    have HB5 := Aside0.mk (below_alloc hb5 (.cells #[.int .i64 r, .slice A5 xs.length c5] 34))
    have HG10 := Aside0.mk (blk_new w5 (.cells #[.int .i64 r, .slice A5 xs.length c5] 34))
    have HBW := Aside0.mk (below_step HB4.out HB5.out)
    have HG9a := Aside0.mk (blk_below HG9.out HB5.out)
    have HG6a := Aside0.mk (blk_below HG6.out HBW.out)
    clear ho5 hb5
    obtain ⟨hp0, hp1, hq0, hq1⟩ := box22 HG6a.out HG10.out
    go_wp2_with fail
    obtain ⟨g10, hg10⟩ : ∃ g10, w5.heap.size = g10 := ⟨_, rfl⟩
    obtain ⟨W5, hW5⟩ : ∃ W5, w5.alloc (.cells #[.int .i64 r, .slice A5 xs.length c5] 34) = W5 := ⟨_, rfl⟩
    rw [hW5] at HO5 HB5 HG10 HBW HG9a HG6a hp0 hp1 hq0 hq1 ⊢
    rw [hg10] at HG10 hq0 hq1 ⊢
    clear hg10 hW5
    refine (eqOrder_yes (r, xs) A5 A3 c5 c3 _ (OI_C HO5.out) (Kd.C_below HC3.out HBW.out)).mono ?_
    rintro e w6 ⟨rfl, hb6⟩
    have HO6 := Aside0.mk (Kd.R_below HO5.out hb6)
    have HO46 := Aside0.mk (Kd.R_below (Kd.R_below HO4.out HB5.out) hb6)
    have HBW6 := Aside0.mk (below_step HBW.out hb6)
    have HG96 := Aside0.mk (blk_below HG9a.out hb6)
    have HG106 := Aside0.mk (blk_below HG10.out hb6)
    have HX6 := Aside0.mk (blk_below HX3.out HBW6.out)
    have HW6 := Aside0.mk (below_step HB3.out HBW6.out)
    clear hb6 HBW HG9a HG6a hp0 hp1 hq0 hq1 HG10 HG9
    obtain ⟨hx0, hx1, hy0, hy1⟩ := box22 HX6.out HG96.out
    go_wp2
    go_region_held3 (fun w' => w'.cell? ⟨w.heap.size, 0, none⟩ = some (.int .i64 s) ∧ w'.cell? ⟨w.heap.size, 1, none⟩ = some (.slice A l.length k) ∧ w'.cell? ⟨g9, 0, none⟩ = some (.int .i64 s) ∧ w'.cell? ⟨g9, 1, none⟩ = some (.slice A4 l.length c4)) (first | exact ⟨hx0, hx1, hy0, hy1⟩ | exact box22 (blk_below HX7.out HB8.out) (blk_below HY7.out HB8.out) | exact box22 HX7.out HY7.out)
      (first | (go_at_call 53; with_reducible refine (toOrder_c s l A k _ (Kd.C_below HR.out (below_drew1 HW6.out)) hml).mono ?_; rintro e w7 ⟨v7, rfl, ho7, hb7⟩; obtain ⟨A7, c7, rfl, hc7, _⟩ := OI_shape ho7; have HO7 := Aside0.mk (OI_C ho7); have HB7 := Aside0.mk hb7; have HX7 := Aside0.mk (blk_below (blk_drew HX6.out) hb7); have HY7 := Aside0.mk (blk_below (blk_drew HG96.out) hb7); clear ho7 hb7) | (go_at_call 55; with_reducible refine (eqOrder_yes (s, l) A4 A7 c4 c7 _ (Kd.C_below (Kd.C_drew (OI_C HO46.out)) HB7.out) HO7.out).mono ?_; rintro e w8 ⟨rfl, hb8⟩; have HB8 := Aside0.mk hb8; clear hb8))
    have HO8 := Aside0.mk (Kd.R_below (Kd.R_below (Kd.R_drew HO6.out) HB7.out) HB8.out)
    have HO48 := Aside0.mk (Kd.R_below (Kd.R_below (Kd.R_drew HO46.out) HB7.out) HB8.out)
    have HBW8 := Aside0.mk (below_step (below_step (below_drew1 HBW6.out) HB7.out) HB8.out)
    have HG98 := Aside0.mk (blk_below HY7.out HB8.out)
    have HG108 := Aside0.mk (blk_below (blk_below (blk_drew HG106.out) HB7.out) HB8.out)
    clear HO6 HO46 HBW6 HG96 HG106 HX6 HW6 HX7 HY7 HB7 HB8 HO7 hx0 hx1 hy0 hy1
    obtain ⟨hy0, hy1⟩ := box2 HG98.out
    go_wp2_with fail
    refine (markOrder_c s l _ 1 W3 _ HO48.out HBW8.out (by omega) (by omega) hml).mono ?_
    rintro e w9 ⟨rfl, _, hb9, hk9⟩
    have HO9 : Aside0 (OI w9 W3.heap.size (.slice A5 xs.length c5) xs) := ⟨by
      refine Kd.R_mono (Kd.R_lower (Kd.R_grown (Kd.R_bound HO8.out) hk9 (fun q hq e => ?_)) HB4.out.size) (fun _ _ => trivial)
      have h1 := Kd.R_lt HO4.out q e.symm
      omega⟩
    have HG109 := Aside0.mk (blk_grown HG108.out hk9 (Kd.R_ne HO48.out HG108.out (by decide)))
    have HB9 := Aside0.mk hb9
    clear hb9 hk9 HO8 HO48 HBW8 HG98 HG108 hy0 hy1
    have HG69 := Aside0.mk (blk_below HG6.out HB9.out)
    obtain ⟨hp0, hp1, hq0, hq1⟩ := box22 HG69.out HG109.out
    go_wp2_with fail
    refine (eqOrder_yes (r, xs) A5 A3 c5 c3 _ (OI_C HO9.out) (Kd.C_below HC3.out HB9.out)).mono ?_
    rintro e w10 ⟨rfl, hb10⟩
    have HO10 := Aside0.mk (Kd.R_below HO9.out hb10)
    have HB10 := Aside0.mk (below_step HB9.out hb10)
    have HG1010 := Aside0.mk (blk_below HG109.out hb10)
    clear hb10 HO9 HB9 HG109 HG69 hp0 hp1 hq0 hq1
    obtain ⟨hq0, hq1⟩ := box2 HG1010.out
    go_wp2_with fail
    refine (markOrder_c r xs _ 1 W3 _ HO10.out HB10.out (by omega) (by omega) (by omega)).mono ?_
    rintro e w11 ⟨rfl, ho11, hb11, hk11⟩
    have HC11 := Aside0.mk (OI_C ho11)
    have HG1011 := Aside0.mk (blk_grown HG1010.out hk11 (Kd.R_ne HO10.out HG1010.out (by decide)))
    have HB11 := Aside0.mk hb11
    clear ho11 hb11 hk11 HO10 HB10 HG1010 hq0 hq1
    obtain ⟨hq0, hq1⟩ := box2 HG1011.out
    go_wp2_with fail
    refine (heldOrder_c r xs.length A5 c5 1 _ HC11.out (by omega) (by omega) (by omega)).mono ?_
    rintro e w12 ⟨rfl, hb12⟩
    have HC12 := Aside0.mk (Kd.C_below HC11.out hb12)
    have HG1012 := Aside0.mk (blk_below HG1011.out hb12)
    have HB12 := Aside0.mk (below_step HB11.out hb12)
    have HW12 := Aside0.mk (below_step HB3.out HB12.out)
    have HX12 := Aside0.mk (blk_below HX3.out HB12.out)
    clear hb12 HC11 HG1011 HB11 hq0 hq1
    obtain ⟨hx0, hx1⟩ := box2 HX12.out
    go_wp2_with fail
    refine (toOrder_c s l A k _ (Kd.C_below HR.out HW12.out) hml).mono ?_
    rintro e w13 ⟨v13, rfl, ho13, hb13⟩
    obtain ⟨A13, c13, rfl, hc13, _⟩ := OI_shape ho13
    have HO13 := Aside0.mk (OI_C ho13)
    have HB13 := Aside0.mk (below_step HB12.out hb13)
    have HC13 := Aside0.mk (Kd.C_below HC12.out hb13)
    have HG1013 := Aside0.mk (blk_below HG1012.out hb13)
    have HT13 := Aside0.mk (HT.out.below (below_step HW12.out hb13))
    clear ho13 hb13 hx0 hx1 HX12 HW12 HC12 HB12 HG1012
    go_wp2_with fail
    refine (HIM.out A13 c13 _ HO13.out HT13.out).mono ?_
    rintro e w14 ⟨A14, c14, rfl, ho14, hb14⟩
    have HO14 := Aside0.mk (Kd.R_alloc ho14 (.cells #[.int .i64 r, .slice A14 xs.length c14] 34))
    have HB14 := Aside0.mk (below_alloc (below_step HB13.out hb14) (.cells #[.int .i64 r, .slice A14 xs.length c14] 34))
    have HC14 := Aside0.mk (Kd.C_alloc (Kd.C_below HC13.out hb14) (.cells #[.int .i64 r, .slice A14 xs.length c14] 34))
    have HG1014 := Aside0.mk (blk_alloc (blk_below HG1013.out hb14) (.cells #[.int .i64 r, .slice A14 xs.length c14] 34))
    have HG614 := Aside0.mk (blk_below HG6.out HB14.out)
    have HG1614 := Aside0.mk (blk_new w14 (.cells #[.int .i64 r, .slice A14 xs.length c14] 34))
    clear ho14 hb14 HB13 HC13 HG1013 HO13
    obtain ⟨hp0, hp1, hq0, hq1⟩ := box22 HG614.out HG1614.out
    go_wp2_with fail
    refine (eqOrder_yes (r, xs) A14 A3 c14 c3 _ (OI_C HO14.out) (Kd.C_below HC3.out HB14.out)).mono ?_
    rintro e w15 ⟨rfl, hb15⟩
    have HC15 := Aside0.mk (Kd.C_below HC14.out hb15)
    have HG1015 := Aside0.mk (blk_below HG1014.out hb15)
    have HB15 := Aside0.mk (below_step HB14.out hb15)
    clear hb15 hp0 hp1 hq0 hq1 HG614 HG1614
    obtain ⟨hq0, hq1⟩ := box2 HG1015.out
    go_wp2_with fail
    refine (heldOrder_c r xs.length A5 c5 1 _ HC15.out (by omega) (by omega) (by omega)).mono ?_
    rintro e w16 ⟨rfl, hb16⟩
    go_wp2
    go_ret
    exact ⟨rfl, below_step HB3.out (below_step HB15.out hb16)⟩
end Go.Proofs.YtgffgmfjoepjoaaDoor.M
