/- NearestOf: the program's and the reference's. -/
import Derived.Test.YtgffgmfjoepjoaaDoorN1
set_option linter.unusedVariables false
set_option linter.unusedSimpArgs false
namespace Go.Proofs.YtgffgmfjoepjoaaDoor.M
open Go.RowKit Go.Proofs.YtgffgmfjoepjoaaDoorW.PrintWords
def NearC (f : FuncId) (s kind : Int) (l : List Int) (A : Option Addr) (k : Nat) (w : World) : Prop :=
  Calls Tryd.prog f #[.agg #[.int .i64 s, .slice A l.length k], .int .i64 kind] w fun e w' => ∃ A1 c1, e = .returned (.tuple #[.agg #[.int .i64 (nrF s kind l).1.1, .slice A1 (nrF s kind l).1.2.length c1], .int .i64 (nrF s kind l).2, .bool (okN s kind l)]) ∧
    OI w' w.heap.size (.slice A1 (nrF s kind l).1.2.length c1) (nrF s kind l).1.2 ∧ Below w.heap.size w w'
theorem nr_at0 {l : List Int} {L : List Ord} {w0 w : World} {s : Int} {b1 b4 g b7 : Nat} {v : Value} {A0 : Nat} {Ax : Option Addr} (h1 : w.heap[b4]? = some (.cells #[.int .i64 0, .slice none 0 0] 34 (0, 0))) (h2 : w.heap[b1]? = some (.cells #[.int .i64 s, .slice Ax l.length A0] 34 (0, 0)))
    (h3 : w.heap[b7]? = some (.cells #[.int .i64 0, .slice none 0 0] 34 (0, 0))) (h4 : Kd.R kO 34 w g (fun k => T k ∧ k ≠ b7) v L) (h5 : Below w0.heap.size w0 w) : Nr l L w0 w s b1 b4 g b7 0 v A0 Ax :=
  ⟨h1, h2, ⟨none, 0, h3, OI_nil _ _⟩, h4, h5⟩
set_option maxHeartbeats 3200000 in
set_option maxRecDepth 100000 in
theorem implNear_c (s kind : Int) (l : List Int) (A : Option Addr) (k : Nat) (w : World) (hr : I.C w A l.length l) (hT : DB w) : NearC 54 s kind l A k w := by
  unfold NearC
  have HT := Aside0.mk hT
  have HR := Aside0.mk hr
  have HX := Aside0.mk (blk_alloc (blk_new w (.cells #[.int .i64 s, .slice A l.length k] 34)) (.cells #[.int .i64 0, .slice none 0 0] 34))
  have HY := Aside0.mk (blk_this (o := .cells #[.int .i64 0, .slice none 0 0] 34) (sza w (.cells #[.int .i64 s, .slice A l.length k] 34)))
  have HB := Aside0.mk (below_alloc (below_alloc (Below.refl w.heap.size w) (.cells #[.int .i64 s, .slice A l.length k] 34)) (.cells #[.int .i64 0, .slice none 0 0] 34))
  have HK := Aside0.mk (isRelation_c s l A k _ (Kd.C_below hr HB.out))
  clear hr hT
  cases hrel : relB s l
  · have HO : Aside0 (okN s kind l = false) := ⟨by rw [okN, hrel]; rfl⟩
    rw [hrel] at HK
    clear hrel
    go_enter Tryd.func54, Tryd.ntmps54
    go_wp2_with fail
    refine HK.out.mono ?_
    rintro e w1 ⟨rfl, hb1⟩
    have HB1 := Aside0.mk (below_step HB.out hb1)
    have HX1 := Aside0.mk (blk_below HX.out hb1)
    have HY1 := Aside0.mk (blk_below HY.out hb1)
    clear hb1
    obtain ⟨hx0, hx1⟩ := box2 HX1.out
    obtain ⟨hy0, hy1⟩ := box2 HY1.out
    have hf0 := blk_frozen HY1.out 0
    have hf1 := blk_frozen HY1.out 1
    go_wp2
    refine bodyPost_ret (results_ctt rfl _ _ (w.heap.size + 1) 34 #[.int .i64 0, .slice none 0 0] (0, 0) _ rfl (put2 HY1.out) Tryd.underlying34 rfl (by kernel_rfl)) rfl ⟨none, 0, ?_, ?_, ?_⟩
    · rw [okN_no HO.out, HO.out]; rfl
    · rw [okN_no HO.out]; exact OI_nil _ _
    · exact (HB1.out.setCell (show w.heap.size ≤ w.heap.size + 1 by omega) _).setCell (show w.heap.size ≤ w.heap.size + 1 by omega) _
  · cases hok : okC s kind
    · have HO : Aside0 (okN s kind l = false) := ⟨by rw [okN, hok, Bool.and_false]⟩
      have HC := Aside0.mk hok
      rw [hrel] at HK
      clear hrel hok
      go_enter Tryd.func54, Tryd.ntmps54
      go_wp2_with fail
      refine HK.out.mono ?_
      rintro e w1 ⟨rfl, hb1⟩
      have HB1 := Aside0.mk (below_step HB.out hb1)
      have HX1 := Aside0.mk (blk_below HX.out hb1)
      have HY1 := Aside0.mk (blk_below HY.out hb1)
      clear hb1
      obtain ⟨hx0, hx1⟩ := box2 HX1.out
      obtain ⟨hy0, hy1⟩ := box2 HY1.out
      have hf0 := blk_frozen HY1.out 0
      have hf1 := blk_frozen HY1.out 1
      go_wp2_with fail
      refine (isChoiceKind_b HC.out w1).mono ?_
      rintro e w1 ⟨rfl, rfl⟩
      go_wp2
      refine bodyPost_ret (results_ctt rfl _ _ (w.heap.size + 1) 34 #[.int .i64 0, .slice none 0 0] (0, 0) _ rfl (put2 HY1.out) Tryd.underlying34 rfl (by kernel_rfl)) rfl ⟨none, 0, ?_, ?_, ?_⟩
      · rw [okN_no HO.out, HO.out]; rfl
      · rw [okN_no HO.out]; exact OI_nil _ _
      · exact (HB1.out.setCell (show w.heap.size ≤ w.heap.size + 1 by omega) _).setCell (show w.heap.size ≤ w.heap.size + 1 by omega) _
    · have hO : okN s kind l = true := by rw [okN, hrel, hok]; rfl
      have HO := Aside0.mk hO
      have HC := Aside0.mk hok
      obtain ⟨rfl, hv4, hl4, hof, _, _⟩ := okN_open hO
      rw [hrel] at HK
      have HV4 := Aside0.mk hv4
      have hlen := ords_len hl4 kind l.length []
      have h16 : 16 ^ l.length ≤ 65536 := by
        have : (16 : Nat) ^ l.length ≤ 16 ^ 4 := Nat.pow_le_pow_right (by decide) hl4
        omega
      obtain ⟨L, hL, HL⟩ : ∃ L, ords l.length kind l.length [] = L ∧ Aside0 (ords l.length kind l.length [] = L) := ⟨_, rfl, ⟨rfl⟩⟩
      have hLl : L.length ≤ 65536 := by rw [← hL]; omega
      have HE : Aside0 (∀ x ∈ L, V4 x.2 ∧ x.2.length = l.length) := ⟨fun x hx => by
        rw [← hL] at hx
        have h := ords_ord l.length [] x hx
        exact ⟨h.1.vo.v4 (by rw [h.2]; exact hl4), h.2⟩⟩
      have HF : Aside0 (nrF (l.length : Int) kind l = nrTo l L L.length) := ⟨by rw [okN_yes hO, hof, hL]⟩
      clear hO hv4 hof hlen h16 hL hrel hok
      go_enter Tryd.func54, Tryd.ntmps54
      go_wp2_with fail
      refine HK.out.mono ?_
      rintro e w1 ⟨rfl, hb1⟩
      have HB1 := Aside0.mk (below_step HB.out hb1)
      have HX1 := Aside0.mk (blk_below HX.out hb1)
      have HY1 := Aside0.mk (blk_below HY.out hb1)
      clear hb1
      obtain ⟨hx0, hx1⟩ := box2 HX1.out
      obtain ⟨hy0, hy1⟩ := box2 HY1.out
      have hf0 := blk_frozen HY1.out 0
      have hf1 := blk_frozen HY1.out 1
      go_wp2_with fail
      refine (isChoiceKind_b HC.out w1).mono ?_
      rintro e w1 ⟨rfl, rfl⟩
      have HX7 := Aside0.mk (blk_alloc HX1.out (.cells #[.int .i64 0, .slice none 0 0] 34))
      have HY7 := Aside0.mk (blk_alloc HY1.out (.cells #[.int .i64 0, .slice none 0 0] 34))
      have HZ7 := Aside0.mk (blk_new w1 (.cells #[.int .i64 0, .slice none 0 0] 34))
      have HB7 := Aside0.mk (below_alloc HB1.out (.cells #[.int .i64 0, .slice none 0 0] 34))
      have hs1 := blk_lt HY1.out
      clear hy0 hy1 hf0 hf1 hx0 hx1
      obtain ⟨hx0, hx1⟩ := box2 HX7.out
      go_wp2_with fail
      refine (ordersOf_c l.length hl4 kind _ (HT.out.below HB7.out)).mono ?_
      rintro e w5 ⟨v5, rfl, ho5, hb5⟩
      rw [HL.out] at ho5
      obtain ⟨A3, c3, rfl, _, _⟩ := Kd.R_reads (Kd.S_R ho5)
      have HN := Aside0.mk (nr_at0 (w0 := w) (blk_below HY7.out hb5) (blk_below HX7.out hb5) (blk_below HZ7.out hb5) (Kd.R_newB (Kd.S_R ho5) HZ7.out) (below_step HB7.out hb5))
      have HR5 := Aside0.mk (Kd.C_below HR.out (below_step HB7.out hb5))
      have hsb := HB1.out.size
      obtain ⟨b7, hb7, HB7e⟩ : ∃ b7, w1.heap.size = b7 ∧ Aside0 (w1.heap.size = b7) := ⟨_, rfl, ⟨rfl⟩⟩
      obtain ⟨g5, hg5⟩ : ∃ g5, (w1.alloc (.cells #[.int .i64 0, .slice none 0 0] 34)).heap.size = g5 := ⟨_, rfl⟩
      rw [hg5] at HN
      rw [hb7] at HN hs1 ⊢
      have h17 : w.heap.size ≠ b7 := by omega
      have h47 : w.heap.size + 1 ≠ b7 := by omega
      have h07 : w.heap.size ≤ b7 := by omega
      have hg5l : w.heap.size ≤ g5 := by rw [← hg5, sza]; omega
      clear ho5 hb5 HX7 HY7 HZ7 HB7 hx0 hx1 hs1 hsb hb7 hg5
      go_wp2
      go_loopw [8, 29] (fun d i wr => ∃ q : Nat, q ≤ L.length ∧ i = .int .i64 q ∧ d = .int .i64 (nrTo l L q).2 ∧ Aside0 (Nr l L w wr (l.length : Int) w.heap.size (w.heap.size + 1) g5 b7 q (.slice A3 L.length c3) k A)) (fun _ i _ => L.length - (intOf i).toNat)
      case atStart => exact ⟨0, Nat.zero_le _, rfl, rfl, HN⟩
      case round =>
        clear HN
        obtain ⟨q, hq, rfl, rfl, HN⟩ := hrel
        by_cases hlt : q < L.length
        · obtain ⟨g, cap, e, _, _, cells, hgc⟩ := Kd.R_form HN.out.list (by omega)
          injection e with eA en ec
          subst eA
          clear en ec
          obtain ⟨A2, c2, hx0, hx1, ho⟩ := RO_elem HN.out.list q hlt
          obtain ⟨hx4, hxl⟩ := HE.out (rdO L q) (by simp [rdO, hlt])
          rw [hxl] at hx1 ho
          have hd := nrTo_each HV4.out HE.out q hq
          have hr16 := apTo_range HV4.out hx4 hxl l.length (Nat.le_refl _)
          have HX4 := Aside0.mk hx4
          have HXL := Aside0.mk hxl
          obtain ⟨x, hx, HXE⟩ : ∃ x, rdO L q = x ∧ Aside0 (rdO L q = x) := ⟨_, rfl, ⟨rfl⟩⟩
          rw [hx] at hx0 ho HX4 HXL hr16
          have HM := Aside0.mk (HN.out.below (below_alloc (Below.refl wr.heap.size wr) (.cells #[.int .i64 x.1, .slice A2 l.length c2] 34)))
          have HTN := Aside0.mk (blk_new wr (.cells #[.int .i64 x.1, .slice A2 l.length c2] 34))
          have HO10 := Aside0.mk (Kd.R_alloc ho (.cells #[.int .i64 x.1, .slice A2 l.length c2] 34))
          obtain ⟨hb0, hb1⟩ := box2 HM.out.box
          have HAP := Aside0.mk (apart_c l x.2 HV4.out HX4.out HXL.out (l.length : Int) x.1 A A2 k c2 _ (Kd.C_below HR.out HM.out.be) (OI_C HO10.out))
          obtain ⟨y, hy⟩ : ∃ y, apF l x.2 = y := ⟨_, rfl⟩
          have hy16 : 0 ≤ y ∧ y ≤ 4 * l.length := by rw [← hy]; exact hr16
          have HYE := Aside0.mk hy
          obtain ⟨D, hD⟩ : ∃ D, (nrTo l L q).2 = D := ⟨_, rfl⟩
          have HD := Aside0.mk hD
          rw [hy] at HAP
          rw [hD] at hd ⊢
          clear hx hy hD ho hgc hx4 hxl hr16
          by_cases h1 : D < 0 ∨ y < D
          · have Hst := Aside0.mk (nrTo_yes (o := l) hlt (by rw [HXE.out, HYE.out, HD.out]; exact h1))
            rw [HXE.out, HYE.out] at Hst
            have H1 := Aside0.mk h1
            by_cases h2 : D < 0
            · clear h1
              go_wp2_with fail
              refine HAP.out.mono ?_
              rintro e w2 ⟨rfl, hb2⟩
              have HM2 := Aside0.mk (HM.out.below hb2)
              obtain ⟨hz0, hz1⟩ := box2 (blk_below HTN.out hb2)
              obtain ⟨Ab, cb, hbb, _⟩ := HM2.out.best
              obtain ⟨hk0, hk1⟩ := box2 hbb
              have hk2 := blk_frozen hbb 0
              have hk3 := blk_frozen hbb 1
              have HO2 := Aside0.mk (Kd.R_below HO10.out hb2)
              have HH := Aside0.mk (HM2.out.put h07 h17 h47 HXL.out (Kd.R_lower HO2.out hg5l) Hst.out)
              clear hb2 hbb
              go_wp2
              go_roundw
              case rel => exact ⟨q + 1, by omega, by go_num, by rw [Hst.out], HH⟩
              case measure => simp [intOf]; omega
            · have h5 : y < D := h1.resolve_left h2
              clear h1
              go_wp2_with fail
              refine HAP.out.mono ?_
              rintro e w2 ⟨rfl, hb2⟩
              have HM2 := Aside0.mk (HM.out.below hb2)
              obtain ⟨hz0, hz1⟩ := box2 (blk_below HTN.out hb2)
              obtain ⟨Ab, cb, hbb, _⟩ := HM2.out.best
              obtain ⟨hk0, hk1⟩ := box2 hbb
              have hk2 := blk_frozen hbb 0
              have hk3 := blk_frozen hbb 1
              have HO2 := Aside0.mk (Kd.R_below HO10.out hb2)
              have HH := Aside0.mk (HM2.out.put h07 h17 h47 HXL.out (Kd.R_lower HO2.out hg5l) Hst.out)
              clear hb2 hbb
              go_wp2
              go_roundw
              case rel => exact ⟨q + 1, by omega, by go_num, by rw [Hst.out], HH⟩
              case measure => simp [intOf]; omega
          · have h2 : ¬ D < 0 := fun h => h1 (.inl h)
            have h3 : ¬ y < D := fun h => h1 (.inr h)
            have Hst := Aside0.mk (nrTo_no (o := l) hlt (by rw [HD.out]; exact h2) (by rw [HXE.out, HYE.out, HD.out]; exact h3))
            clear h1
            go_wp2_with fail
            refine HAP.out.mono ?_
            rintro e w2 ⟨rfl, hb2⟩
            have HM2 := Aside0.mk ((HM.out.below hb2).same Hst.out)
            clear hb2
            go_wp2
            go_roundw
            case rel => exact ⟨q + 1, by omega, by go_num, by rw [Hst.out, HD.out], HM2⟩
            case measure => simp [intOf]; omega
        · have hqe : q = L.length := by omega
          have HQ := Aside0.mk hqe
          obtain ⟨Ab, cb, hbb, hob⟩ := HN.out.best
          obtain ⟨hk0, hk1⟩ := box2 hbb
          obtain ⟨hr0, hr1⟩ := box2 HN.out.res
          have hr2 := blk_frozen HN.out.res 0
          have hr3 := blk_frozen HN.out.res 1
          have HOB := Aside0.mk hob
          clear hqe hbb hob
          go_wp2
          refine bodyPost_ret (results_ctt rfl _ _ (w.heap.size + 1) 34 #[.int .i64 (nrTo l L q).1.1, .slice Ab (nrTo l L q).1.2.length cb] (0, 0) _ rfl (put2 HN.out.res) Tryd.underlying34 rfl (by kernel_rfl)) rfl ⟨Ab, cb, ?_, ?_, ?_⟩
          · rw [HF.out, HO.out, ← HQ.out]; rfl
          · rw [HF.out, ← HQ.out]; exact OI_farv (OI_farv HOB.out HN.out.res (by decide) _) (blk_put HN.out.res 0 _ rfl) (by decide) _
          · exact (HN.out.be.setCell (show w.heap.size ≤ w.heap.size + 1 by omega) _).setCell (show w.heap.size ≤ w.heap.size + 1 by omega) _
set_option maxHeartbeats 3200000 in
set_option maxRecDepth 100000 in
theorem specNear_c (s kind : Int) (l : List Int) (A : Option Addr) (k : Nat) (w : World) (hr : I.C w A l.length l) : NearC 52 s kind l A k w := by
  unfold NearC
  have HR := Aside0.mk hr
  have HX := Aside0.mk (blk_alloc (blk_new w (.cells #[.int .i64 s, .slice A l.length k] 34)) (.cells #[.int .i64 0, .slice none 0 0] 34))
  have HY := Aside0.mk (blk_this (o := .cells #[.int .i64 0, .slice none 0 0] 34) (sza w (.cells #[.int .i64 s, .slice A l.length k] 34)))
  have HB := Aside0.mk (below_alloc (below_alloc (Below.refl w.heap.size w) (.cells #[.int .i64 s, .slice A l.length k] 34)) (.cells #[.int .i64 0, .slice none 0 0] 34))
  have HK := Aside0.mk (orRelation_c s l A k _ (Kd.C_below hr HB.out))
  clear hr
  cases hrel : relB s l
  · have HO : Aside0 (okN s kind l = false) := ⟨by rw [okN, hrel]; rfl⟩
    rw [hrel] at HK
    clear hrel
    go_enter Tryd.func52, Tryd.ntmps52
    go_wp2_with fail
    refine HK.out.mono ?_
    rintro e w1 ⟨rfl, hb1⟩
    have HB1 := Aside0.mk (below_step HB.out hb1)
    have HX1 := Aside0.mk (blk_below HX.out hb1)
    have HY1 := Aside0.mk (blk_below HY.out hb1)
    clear hb1
    obtain ⟨hx0, hx1⟩ := box2 HX1.out
    obtain ⟨hy0, hy1⟩ := box2 HY1.out
    have hf0 := blk_frozen HY1.out 0
    have hf1 := blk_frozen HY1.out 1
    go_wp2
    refine bodyPost_ret (results_ctt rfl _ _ (w.heap.size + 1) 34 #[.int .i64 0, .slice none 0 0] (0, 0) _ rfl (put2 HY1.out) Tryd.underlying34 rfl (by kernel_rfl)) rfl ⟨none, 0, ?_, ?_, ?_⟩
    · rw [okN_no HO.out, HO.out]; rfl
    · rw [okN_no HO.out]; exact OI_nil _ _
    · exact (HB1.out.setCell (show w.heap.size ≤ w.heap.size + 1 by omega) _).setCell (show w.heap.size ≤ w.heap.size + 1 by omega) _
  · cases hn : inR s 0 4
    · have HO : Aside0 (okN s kind l = false) := ⟨by rw [okN, okC, hn, Bool.false_and, Bool.and_false]⟩
      have HC := Aside0.mk hn
      rw [hrel] at HK
      clear hrel hn
      go_enter Tryd.func52, Tryd.ntmps52
      go_wp2_with fail
      refine HK.out.mono ?_
      rintro e w1 ⟨rfl, hb1⟩
      have HB1 := Aside0.mk (below_step HB.out hb1)
      have HX1 := Aside0.mk (blk_below HX.out hb1)
      have HY1 := Aside0.mk (blk_below HY.out hb1)
      clear hb1
      obtain ⟨hx0, hx1⟩ := box2 HX1.out
      obtain ⟨hy0, hy1⟩ := box2 HY1.out
      have hf0 := blk_frozen HY1.out 0
      have hf1 := blk_frozen HY1.out 1
      go_wp2_with fail
      refine (cfSize_b HC.out w1).mono ?_
      rintro e w1 ⟨rfl, rfl⟩
      go_wp2
      refine bodyPost_ret (results_ctt rfl _ _ (w.heap.size + 1) 34 #[.int .i64 0, .slice none 0 0] (0, 0) _ rfl (put2 HY1.out) Tryd.underlying34 rfl (by kernel_rfl)) rfl ⟨none, 0, ?_, ?_, ?_⟩
      · rw [okN_no HO.out, HO.out]; rfl
      · rw [okN_no HO.out]; exact OI_nil _ _
      · exact (HB1.out.setCell (show w.heap.size ≤ w.heap.size + 1 by omega) _).setCell (show w.heap.size ≤ w.heap.size + 1 by omega) _
    · cases hk : inR kind 0 3
      · have HO : Aside0 (okN s kind l = false) := ⟨by rw [okN, okC, hk, Bool.and_false, Bool.and_false]⟩
        have HC := Aside0.mk hn
        have HC2 := Aside0.mk hk
        rw [hrel] at HK
        clear hrel hn hk
        go_enter Tryd.func52, Tryd.ntmps52
        go_wp2_with fail
        refine HK.out.mono ?_
        rintro e w1 ⟨rfl, hb1⟩
        have HB1 := Aside0.mk (below_step HB.out hb1)
        have HX1 := Aside0.mk (blk_below HX.out hb1)
        have HY1 := Aside0.mk (blk_below HY.out hb1)
        clear hb1
        obtain ⟨hx0, hx1⟩ := box2 HX1.out
        obtain ⟨hy0, hy1⟩ := box2 HY1.out
        have hf0 := blk_frozen HY1.out 0
        have hf1 := blk_frozen HY1.out 1
        go_wp2_with fail
        refine (cfSize_b HC.out w1).mono ?_
        rintro e w1 ⟨rfl, rfl⟩
        go_wp2_with fail
        refine (cfKinds_b HC2.out w1).mono ?_
        rintro e w1 ⟨rfl, rfl⟩
        go_wp2
        refine bodyPost_ret (results_ctt rfl _ _ (w.heap.size + 1) 34 #[.int .i64 0, .slice none 0 0] (0, 0) _ rfl (put2 HY1.out) Tryd.underlying34 rfl (by kernel_rfl)) rfl ⟨none, 0, ?_, ?_, ?_⟩
        · rw [okN_no HO.out, HO.out]; rfl
        · rw [okN_no HO.out]; exact OI_nil _ _
        · exact (HB1.out.setCell (show w.heap.size ≤ w.heap.size + 1 by omega) _).setCell (show w.heap.size ≤ w.heap.size + 1 by omega) _
      · have hO : okN s kind l = true := by rw [okN, okC, hrel, hn, hk]; rfl
        have HO := Aside0.mk hO
        have HC := Aside0.mk hn
        have HC2 := Aside0.mk hk
        obtain ⟨rfl, hv4, hl4, hof, _, _⟩ := okN_open hO
        rw [hrel] at HK
        have HV4 := Aside0.mk hv4
        have hlen := ords_len hl4 kind l.length []
        have h16 : 16 ^ l.length ≤ 65536 := by
          have : (16 : Nat) ^ l.length ≤ 16 ^ 4 := Nat.pow_le_pow_right (by decide) hl4
          omega
        obtain ⟨L, hL, HL⟩ : ∃ L, ords l.length kind l.length [] = L ∧ Aside0 (ords l.length kind l.length [] = L) := ⟨_, rfl, ⟨rfl⟩⟩
        have hLl : L.length ≤ 65536 := by rw [← hL]; omega
        have HE : Aside0 (∀ x ∈ L, V4 x.2 ∧ x.2.length = l.length) := ⟨fun x hx => by
          rw [← hL] at hx
          have h := ords_ord l.length [] x hx
          exact ⟨h.1.vo.v4 (by rw [h.2]; exact hl4), h.2⟩⟩
        have HF : Aside0 (nrF (l.length : Int) kind l = nrTo l L L.length) := ⟨by rw [okN_yes hO, hof, hL]⟩
        clear hO hv4 hof hlen h16 hL hrel hn hk
        go_enter Tryd.func52, Tryd.ntmps52
        go_wp2_with fail
        refine HK.out.mono ?_
        rintro e w1 ⟨rfl, hb1⟩
        have HB1 := Aside0.mk (below_step HB.out hb1)
        have HX1 := Aside0.mk (blk_below HX.out hb1)
        have HY1 := Aside0.mk (blk_below HY.out hb1)
        clear hb1
        obtain ⟨hx0, hx1⟩ := box2 HX1.out
        obtain ⟨hy0, hy1⟩ := box2 HY1.out
        have hf0 := blk_frozen HY1.out 0
        have hf1 := blk_frozen HY1.out 1
        go_wp2_with fail
        refine (cfSize_b HC.out w1).mono ?_
        rintro e w1 ⟨rfl, rfl⟩
        go_wp2_with fail
        refine (cfKinds_b HC2.out w1).mono ?_
        rintro e w1 ⟨rfl, rfl⟩
        have HX7 := Aside0.mk (blk_alloc HX1.out (.cells #[.int .i64 0, .slice none 0 0] 34))
        have HY7 := Aside0.mk (blk_alloc HY1.out (.cells #[.int .i64 0, .slice none 0 0] 34))
        have HZ7 := Aside0.mk (blk_new w1 (.cells #[.int .i64 0, .slice none 0 0] 34))
        have HB7 := Aside0.mk (below_alloc HB1.out (.cells #[.int .i64 0, .slice none 0 0] 34))
        have hs1 := blk_lt HY1.out
        clear hy0 hy1 hf0 hf1 hx0 hx1
        obtain ⟨hx0, hx1⟩ := box2 HX7.out
        go_wp2_with fail
        refine (cfOrders_c l.length hl4 kind l.length [] none 0 0 _ rfl (by omega) (Kd_C_nil _ _)).mono ?_
        rintro e w5 ⟨v5, rfl, ho5, hb5⟩
        rw [HL.out] at ho5
        obtain ⟨A3, c3, rfl, _, _⟩ := Kd.R_reads ho5
        have HN := Aside0.mk (nr_at0 (w0 := w) (blk_below HY7.out hb5) (blk_below HX7.out hb5) (blk_below HZ7.out hb5) (Kd.R_newB ho5 HZ7.out) (below_step HB7.out hb5))
        have HR5 := Aside0.mk (Kd.C_below HR.out (below_step HB7.out hb5))
        have hsb := HB1.out.size
        obtain ⟨b7, hb7, HB7e⟩ : ∃ b7, w1.heap.size = b7 ∧ Aside0 (w1.heap.size = b7) := ⟨_, rfl, ⟨rfl⟩⟩
        obtain ⟨g5, hg5⟩ : ∃ g5, (w1.alloc (.cells #[.int .i64 0, .slice none 0 0] 34)).heap.size = g5 := ⟨_, rfl⟩
        rw [hg5] at HN
        rw [hb7] at HN hs1 ⊢
        have h17 : w.heap.size ≠ b7 := by omega
        have h47 : w.heap.size + 1 ≠ b7 := by omega
        have h07 : w.heap.size ≤ b7 := by omega
        have hg5l : w.heap.size ≤ g5 := by rw [← hg5, sza]; omega
        clear ho5 hb5 HX7 HY7 HZ7 HB7 hx0 hx1 hs1 hsb hb7 hg5
        go_wp2
        go_loopw [8, 32] (fun d i wr => ∃ q : Nat, q ≤ L.length ∧ i = .int .i64 q ∧ d = .int .i64 (nrTo l L q).2 ∧ Aside0 (Nr l L w wr (l.length : Int) w.heap.size (w.heap.size + 1) g5 b7 q (.slice A3 L.length c3) k A)) (fun _ i _ => L.length - (intOf i).toNat)
        case atStart => exact ⟨0, Nat.zero_le _, rfl, rfl, HN⟩
        case round =>
          clear HN
          obtain ⟨q, hq, rfl, rfl, HN⟩ := hrel
          by_cases hlt : q < L.length
          · obtain ⟨g, cap, e, _, _, cells, hgc⟩ := Kd.R_form HN.out.list (by omega)
            injection e with eA en ec
            subst eA
            clear en ec
            obtain ⟨A2, c2, hx0, hx1, ho⟩ := RO_elem HN.out.list q hlt
            obtain ⟨hx4, hxl⟩ := HE.out (rdO L q) (by simp [rdO, hlt])
            rw [hxl] at hx1 ho
            have hd := nrTo_each HV4.out HE.out q hq
            have hr16 := apTo_range HV4.out hx4 hxl l.length (Nat.le_refl _)
            have HX4 := Aside0.mk hx4
            have HXL := Aside0.mk hxl
            obtain ⟨x, hx, HXE⟩ : ∃ x, rdO L q = x ∧ Aside0 (rdO L q = x) := ⟨_, rfl, ⟨rfl⟩⟩
            rw [hx] at hx0 ho HX4 HXL hr16
            have HM := Aside0.mk (HN.out.below (below_alloc (Below.refl wr.heap.size wr) (.cells #[.int .i64 x.1, .slice A2 l.length c2] 34)))
            have HTN := Aside0.mk (blk_new wr (.cells #[.int .i64 x.1, .slice A2 l.length c2] 34))
            have HO10 := Aside0.mk (Kd.R_alloc ho (.cells #[.int .i64 x.1, .slice A2 l.length c2] 34))
            obtain ⟨hb0, hb1⟩ := box2 HM.out.box
            have HAP := Aside0.mk (cfApart_c l x.2 HV4.out HX4.out HXL.out (l.length : Int) x.1 A A2 k c2 _ (Kd.C_below HR.out HM.out.be) (OI_C HO10.out))
            obtain ⟨y, hy⟩ : ∃ y, apF l x.2 = y := ⟨_, rfl⟩
            have hy16 : 0 ≤ y ∧ y ≤ 4 * l.length := by rw [← hy]; exact hr16
            have HYE := Aside0.mk hy
            obtain ⟨D, hD⟩ : ∃ D, (nrTo l L q).2 = D := ⟨_, rfl⟩
            have HD := Aside0.mk hD
            rw [hy] at HAP
            rw [hD] at hd ⊢
            clear hx hy hD ho hgc hx4 hxl hr16
            by_cases h1 : D < 0 ∨ y < D
            · have Hst := Aside0.mk (nrTo_yes (o := l) hlt (by rw [HXE.out, HYE.out, HD.out]; exact h1))
              rw [HXE.out, HYE.out] at Hst
              have H1 := Aside0.mk h1
              by_cases h2 : D < 0
              · clear h1
                go_wp2_with fail
                refine HAP.out.mono ?_
                rintro e w2 ⟨rfl, hb2⟩
                have HM2 := Aside0.mk (HM.out.below hb2)
                obtain ⟨hz0, hz1⟩ := box2 (blk_below HTN.out hb2)
                obtain ⟨Ab, cb, hbb, _⟩ := HM2.out.best
                obtain ⟨hk0, hk1⟩ := box2 hbb
                have hk2 := blk_frozen hbb 0
                have hk3 := blk_frozen hbb 1
                have HO2 := Aside0.mk (Kd.R_below HO10.out hb2)
                have HH := Aside0.mk (HM2.out.put h07 h17 h47 HXL.out (Kd.R_lower HO2.out hg5l) Hst.out)
                clear hb2 hbb
                go_wp2
                go_roundw
                case rel => exact ⟨q + 1, by omega, by go_num, by rw [Hst.out], HH⟩
                case measure => simp [intOf]; omega
              · have h5 : y < D := h1.resolve_left h2
                clear h1
                go_wp2_with fail
                refine HAP.out.mono ?_
                rintro e w2 ⟨rfl, hb2⟩
                have HM2 := Aside0.mk (HM.out.below hb2)
                obtain ⟨hz0, hz1⟩ := box2 (blk_below HTN.out hb2)
                obtain ⟨Ab, cb, hbb, _⟩ := HM2.out.best
                obtain ⟨hk0, hk1⟩ := box2 hbb
                have hk2 := blk_frozen hbb 0
                have hk3 := blk_frozen hbb 1
                have HO2 := Aside0.mk (Kd.R_below HO10.out hb2)
                have HH := Aside0.mk (HM2.out.put h07 h17 h47 HXL.out (Kd.R_lower HO2.out hg5l) Hst.out)
                clear hb2 hbb
                go_wp2
                go_roundw
                case rel => exact ⟨q + 1, by omega, by go_num, by rw [Hst.out], HH⟩
                case measure => simp [intOf]; omega
            · have h2 : ¬ D < 0 := fun h => h1 (.inl h)
              have h3 : ¬ y < D := fun h => h1 (.inr h)
              have Hst := Aside0.mk (nrTo_no (o := l) hlt (by rw [HD.out]; exact h2) (by rw [HXE.out, HYE.out, HD.out]; exact h3))
              clear h1
              go_wp2_with fail
              refine HAP.out.mono ?_
              rintro e w2 ⟨rfl, hb2⟩
              have HM2 := Aside0.mk ((HM.out.below hb2).same Hst.out)
              clear hb2
              go_wp2
              go_roundw
              case rel => exact ⟨q + 1, by omega, by go_num, by rw [Hst.out, HD.out], HM2⟩
              case measure => simp [intOf]; omega
          · have hqe : q = L.length := by omega
            have HQ := Aside0.mk hqe
            obtain ⟨Ab, cb, hbb, hob⟩ := HN.out.best
            obtain ⟨hk0, hk1⟩ := box2 hbb
            obtain ⟨hr0, hr1⟩ := box2 HN.out.res
            have hr2 := blk_frozen HN.out.res 0
            have hr3 := blk_frozen HN.out.res 1
            have HOB := Aside0.mk hob
            clear hqe hbb hob
            go_wp2
            refine bodyPost_ret (results_ctt rfl _ _ (w.heap.size + 1) 34 #[.int .i64 (nrTo l L q).1.1, .slice Ab (nrTo l L q).1.2.length cb] (0, 0) _ rfl (put2 HN.out.res) Tryd.underlying34 rfl (by kernel_rfl)) rfl ⟨Ab, cb, ?_, ?_, ?_⟩
            · rw [HF.out, HO.out, ← HQ.out]; rfl
            · rw [HF.out, ← HQ.out]; exact OI_farv (OI_farv HOB.out HN.out.res (by decide) _) (blk_put HN.out.res 0 _ rfl) (by decide) _
            · exact (HN.out.be.setCell (show w.heap.size ≤ w.heap.size + 1 by omega) _).setCell (show w.heap.size ≤ w.heap.size + 1 by omega) _
end Go.Proofs.YtgffgmfjoepjoaaDoor.M
