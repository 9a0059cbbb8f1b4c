/- Orders: the reference's orGood. -/
import Derived.Test.YtgffgmfjoepjoaaDoorO4
set_option linter.unusedVariables false
set_option linter.unusedSimpArgs false
namespace Go.Proofs.YtgffgmfjoepjoaaDoor.M
open Go.RowKit Go.Proofs.YtgffgmfjoepjoaaDoorW.PrintWords
set_option maxHeartbeats 1600000 in
set_option maxRecDepth 100000 in
theorem orGood_c (s : Int) (l : List Int) (A : Option Addr) (k0 : Nat) (w : World) (hr : I.C w A l.length l) :
    Calls Tryd.prog 102 #[.agg #[.int .i64 s, .slice A l.length k0]] w fun e w' => e = .returned (.bool (ordB s l)) ∧ Below w.heap.size w w' := by
  have HR := Aside0.mk hr
  have hX := Aside0.mk (blk_new w (.cells #[.int .i64 s, .slice A l.length k0] 34))
  have hB := Aside0.mk (below_alloc (Below.refl w.heap.size w) (.cells #[.int .i64 s, .slice A l.length k0] 34))
  clear hr
  cases hrel0 : relB s l
  · have Hf : Aside0 (ordB s l = false) := ⟨by rw [ordB, hrel0]; rfl⟩
    have HF := Aside0.mk hrel0
    clear hrel0
    go_enter Tryd.func102, Tryd.ntmps102
    go_wp2_with fail
    refine (orRelation_b HF.out A k0 _ (Kd.C_below HR.out hB.out)).mono ?_
    rintro e w1 ⟨rfl, hb⟩
    go_wp2
    go_ret
    exact ⟨ret_bool Hf.out.symm, below_step hB.out hb⟩
  · obtain ⟨rfl, hv⟩ := rel_VO hrel0
    have HF := Aside0.mk hrel0
    have HV := Aside0.mk hv
    have hl10 := hv.l10
    clear hrel0 hv
    go_enter Tryd.func102, Tryd.ntmps102
    go_wp2_with fail
    refine (orRelation_b HF.out A k0 _ (Kd.C_below HR.out hB.out)).mono ?_
    rintro e w1 ⟨rfl, hb⟩
    have HB1 := Aside0.mk (below_step hB.out hb)
    have HX1 := Aside0.mk (blk_below hX.out hb)
    obtain ⟨hx0, hx1⟩ := box2 HX1.out
    clear hb hB hX
    go_wp2
    go_loopw [13] (fun i wr => ∃ j : Nat, j ≤ l.length ∧ i = .int .i64 j ∧ Aside0 (∀ i, i < j → ordAt l i = true) ∧ Aside0 (Below w.heap.size w wr) ∧ Aside0 (wr.heap[w.heap.size]? = some (.cells #[.int .i64 (l.length : Int), .slice A l.length k0] 34 (0, 0)))) (fun i _ => l.length - (intOf i).toNat)
    case atStart => exact ⟨0, Nat.zero_le _, rfl, ⟨fun i hi => by omega⟩, HB1, HX1⟩
    case round =>
      clear HB1 HX1 hx0 hx1
      obtain ⟨j, hj, rfl, HA, HB, HX⟩ := hrel
      obtain ⟨hx0, hx1⟩ := box2 HX.out
      by_cases hlt : j < l.length
      · obtain ⟨ad, rfl, hc⟩ := Kd.at_int (Kd.C_below HR.out HB.out) j (by omega) (by omega)
        rw [Int.toNat_natCast] at hc
        cases hb1 : has (rd l j) j
        · obtain ⟨x, hxe⟩ : ∃ x, x = rd l j := ⟨_, rfl⟩
          have hxr := HV.out.rd hlt
          have HXR := Aside0.mk hxr
          have Hb1 := Aside0.mk hb1
          rw [← hxe] at hc HXR hxr
          have Hxe := Aside0.mk hxe
          have hx10 := hxr.1
          clear hxe hb1 hxr
          go_wp2_with fail
          refine (orHas_b (x := x) (i := (j : Int)) (b := false) (by rw [Hxe.out]; exact Hb1.out) _ hx10 (by omega) (by omega)).mono ?_
          rintro e w2 ⟨rfl, rfl⟩
          have HB2 := HB
          have HX2 := HX
          clear HB HX hc
          go_wp2_with fail
          refine (orList_c x l.length (by omega) HXR.out.1 HXR.out.2.1 _).mono ?_
          rintro e w3 ⟨v3, rfl, ho3, hb3⟩
          obtain ⟨A3, c3, rfl, _⟩ := OI_shape ho3
          have HO3 := Aside0.mk (OI_C ho3)
          have HB3 := Aside0.mk (below_step HB2.out hb3)
          have HX3 := Aside0.mk (blk_below HX2.out hb3)
          clear ho3 hb3 HB2 HX2
          go_wp2
          go_loop [24] (fun i => ∃ q : Nat, q ≤ (bitsOf x).length ∧ i = .int .i64 q ∧ Aside0 (∀ i : Nat, i < q → subB (rd l (rd (bitsOf x) i)) x = true)) (fun i => (bitsOf x).length - (intOf i).toNat)
          case atStart => exact ⟨0, Nat.zero_le _, rfl, ⟨fun i hi => by omega⟩⟩
          case round =>
            obtain ⟨q, hq, rfl, HQ⟩ := hrel
            have hbl : (bitsOf x).length ≤ 62 := bitsTo_len _ _
            by_cases hq1 : q < (bitsOf x).length
            · obtain ⟨ad3, rfl, hc3⟩ := Kd.at_int HO3.out q (by omega) (by omega)
              rw [Int.toNat_natCast] at hc3
              obtain ⟨j2, hj2, hj3, _⟩ := bit_at HV.out hlt (q := q) (by rw [← Hxe.out]; exact hq1)
              rw [← Hxe.out] at hj2
              rw [hj2] at hc3
              have Hj2 := Aside0.mk hj2
              clear hj2
              obtain ⟨ad4, e4, hc4⟩ := Kd.at_int (Kd.C_below HR.out HB3.out) j2 (by omega) (by omega)
              injection e4 with e4
              subst e4
              rw [Int.toNat_natCast] at hc4
              obtain ⟨hx0, hx1⟩ := box2 HX3.out
              cases hs : subB (rd l j2) x
              · have ht := sub_tests hs
                have He := Aside0.mk (ord_false (s := l.length) hlt (ordAt_no2 (q := q) (by rw [← Hxe.out]; exact hq1) (by rw [← Hxe.out, Hj2.out]; exact hs)))
                clear hs
                go_wp2
                go_ret
                exact ⟨ret_bool He.out.symm, HB3.out⟩
              · have ht := sub_tests hs
                have Hs := Aside0.mk hs
                clear hs
                go_wp2
                go_round
                case rel => exact ⟨q + 1, by omega, by go_num, ⟨fun i hi => by rcases Nat.lt_or_ge i q with h | h; exact HQ.out i h; rw [show i = q by omega, Hj2.out]; exact Hs.out⟩⟩
                case measure => simp [intOf]; omega
            · have Ha := Aside0.mk (ordAt_yes Hb1.out (fun i hi => by rw [← Hxe.out] at hi ⊢; exact HQ.out i (by omega)))
              go_wp2
              go_roundw
              case rel => exact ⟨j + 1, by omega, by go_num, ⟨fun i hi => by rcases Nat.lt_or_ge i j with h | h; exact HA.out i h; rw [show i = j by omega]; exact Ha.out⟩, HB3, HX3⟩
              case measure => simp [intOf]; omega
        · have He := Aside0.mk (ord_false (s := l.length) hlt (ordAt_no1 hb1))
          have Hb1 := Aside0.mk hb1
          clear hb1
          go_wp2_with fail
          refine (orHas_b (i := (j : Int)) Hb1.out _ (HV.out.rd hlt).1 (by omega) (by omega)).mono ?_
          rintro e w2 ⟨rfl, rfl⟩
          go_wp2
          go_ret
          exact ⟨ret_bool He.out.symm, HB.out⟩
      · have He := Aside0.mk (ord_true HV.out (fun i hi => HA.out i (by omega)))
        go_wp2
        go_ret
        exact ⟨ret_bool He.out.symm, HB.out⟩
end Go.Proofs.YtgffgmfjoepjoaaDoor.M
