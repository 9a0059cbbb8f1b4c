/- A chain of three elements and one that is indifferent to all: the program's threeOne and the reference's ThreeOneOf. -/
import Derived.Test.YtgffgmfjoepjoaaDoorOC
set_option linter.unusedVariables false
set_option linter.unusedSimpArgs false
namespace Go.Proofs.YtgffgmfjoepjoaaDoor.M
open Go.RowKit Go.Proofs.YtgffgmfjoepjoaaDoorW.PrintWords
def thS (l : List Int) (a b c : Int) : Int := bits .and .i64 (bits .and .i64 (near l a.toNat) (near l b.toNat)) (near l c.toNat)
def thAt (l : List Int) (a b c : Int) : Option (List Int) := if thS l a b c = 0 then none else some [a, b, c, rd (bitsOf (thS l a b c)) 0]
def thC (l : List Int) (a : Nat) (b : Int) : Option (List Int) := fst (bitsOf (rd l b)) (thAt l a b)
def thB (l : List Int) (a : Nat) : Option (List Int) := fst (bitsOf (rd l a)) (thC l a)
def thF (l : List Int) : Option (List Int) := scan (thB l) l.length 0
theorem thS_spec {l : List Int} (hv : VO l) {a b c : Nat} (ha : a < l.length) (hb : b < l.length) (hc : c < l.length) : 0 ≤ thS l a b c ∧ thS l a b c < 2 ^ l.length ∧ ∀ i : Nat, has (thS l a b c) i = (has (near l a) i && (has (near l b) i && has (near l c) i)) := by
  have h1 := near_spec hv ha
  have h2 := near_spec hv hb
  have h3 := near_spec hv hc
  have hn : l.length ≤ 62 := by have := hv.l10; omega
  obtain ⟨d1, d2, d3⟩ := and_set hn h1.1 h1.2.1 h2.1 h2.2.1
  obtain ⟨e1, e2, e3⟩ := and_set hn d1 d2 h3.1 h3.2.1
  rw [thS, Int.toNat_natCast, Int.toNat_natCast, Int.toNat_natCast]
  exact ⟨e1, e2, fun i => by rw [e3, d3, Bool.and_assoc]⟩
set_option maxHeartbeats 3200000 in
set_option maxRecDepth 100000 in
theorem threeOne_c (l : List Int) (hv : VO l) (A : Option Addr) (k : Nat) (w : World) (hr : I.C w A l.length l) (hT : DB w) :
    Calls Tryd.prog 197 #[.agg #[.int .i64 (l.length : Int), .slice A l.length k]] w fun e w' => ∃ v, e = .returned v ∧ OptI w' w.heap.size v (thF l) ∧ Below w.heap.size w w' := by
  have HV := Aside0.mk hv
  have h10 := hv.l10
  have hB := Aside0.mk (below_alloc (Below.refl w.heap.size w) (.cells #[.int .i64 (l.length : Int), .slice A l.length k] 34))
  have hX := Aside0.mk (blk_new w (.cells #[.int .i64 (l.length : Int), .slice A l.length k] 34))
  have HR := Aside0.mk (Kd.C_below hr hB.out)
  have HT := Aside0.mk (hT.below hB.out)
  clear hr hT hv
  go_enter Tryd.func197, Tryd.ntmps197
  go_wp2_with fail
  refine (indifferent_c l HV.out A k _ HR.out).mono ?_
  rintro e w1 ⟨v1, rfl, ho1, hb1⟩
  obtain ⟨A1, c1, rfl, _⟩ := OI_shape ho1
  have HN := Aside0.mk (OI_C ho1)
  have HB1 := Aside0.mk (below_step hB.out hb1)
  have HX1 := Aside0.mk (blk_below hX.out hb1)
  have HR1 := Aside0.mk (Kd.C_below HR.out hb1)
  have HT1 := Aside0.mk (HT.out.below hb1)
  have hnl : (nearL l).length = l.length := nearTo_len _ _
  have Hnl := Aside0.mk hnl
  obtain ⟨hx0, hx1⟩ := box2 HX1.out
  clear ho1 hb1 hB hX HR HT hnl
  go_wp2
  go_loopw [14] (fun i wr => ∃ a : Nat, a ≤ l.length ∧ i = .int .i64 a ∧ Aside0 (∀ i, i < a → thB l i = none) ∧ Aside0 (Below w1.heap.size w1 wr)) (fun i _ => l.length - (intOf i).toNat)
  case atStart => exact ⟨0, Nat.zero_le _, rfl, ⟨fun i hi => by omega⟩, ⟨Below.refl _ _⟩⟩
  case round =>
    clear hx0 hx1
    obtain ⟨a, ha, rfl, HAA, HB⟩ := hrel
    obtain ⟨hx0, hx1⟩ := box2 (blk_below HX1.out HB.out)
    by_cases la : a < l.length
    · obtain ⟨ad, rfl, hc⟩ := Kd.at_int (Kd.C_below HR1.out HB.out) a (by omega) (by omega)
      rw [Int.toNat_natCast] at hc
      have HXR := Aside0.mk (HV.out.rd la)
      obtain ⟨x, hxe⟩ : ∃ x, x = rd l a := ⟨_, rfl⟩
      rw [← hxe] at hc HXR
      have HXE := Aside0.mk hxe
      clear hxe
      go_wp2_with fail
      refine (members_c x l.length (by omega) HXR.out.1 HXR.out.2.1 _ (HT1.out.below HB.out)).mono ?_
      rintro e w2 ⟨v, rfl, ho, hb⟩
      obtain ⟨A2, c2, rfl, _⟩ := OI_shape ho
      have HO2 := Aside0.mk (OI_C ho)
      have HB2 := Aside0.mk (below_step HB.out hb)
      clear ho hb hx0 hx1 hc HB
      go_wp2
      go_loopw [24] (fun i wr => ∃ qb : Nat, qb ≤ (bitsOf x).length ∧ i = .int .i64 qb ∧ Aside0 (∀ i : Nat, i < qb → thC l a (rd (bitsOf x) i) = none) ∧ Aside0 (Below w2.heap.size w2 wr)) (fun i _ => (bitsOf x).length - (intOf i).toNat)
      case atStart => exact ⟨0, Nat.zero_le _, rfl, ⟨fun i hi => by omega⟩, ⟨Below.refl _ _⟩⟩
      case round =>
        obtain ⟨qb, hqb, rfl, HBB, HBq⟩ := hrel
        have hblb : (bitsOf x).length ≤ 62 := bitsTo_len _ _
        have HB := Aside0.mk (below_step HB2.out HBq.out)
        obtain ⟨hx0, hx1⟩ := box2 (blk_below HX1.out HB.out)
        by_cases lqb : qb < (bitsOf x).length
        · obtain ⟨adqb, rfl, hcqb⟩ := Kd.at_int (Kd.C_below HO2.out HBq.out) qb (by omega) (by omega)
          rw [Int.toNat_natCast] at hcqb
          obtain ⟨b, eb, lb, _⟩ := bit_at HV.out la (q := qb) (by rw [← HXE.out]; exact lqb)
          rw [← HXE.out] at eb
          rw [eb] at hcqb
          have HEb := Aside0.mk eb
          clear eb
          obtain ⟨ad_, ea, hc⟩ := Kd.at_int (Kd.C_below HR1.out HB.out) b (by omega) (by omega)
          injection ea with ea
          subst ea
          rw [Int.toNat_natCast] at hc
          have HYR := Aside0.mk (HV.out.rd lb)
          obtain ⟨y, hxe⟩ : ∃ x, x = rd l b := ⟨_, rfl⟩
          rw [← hxe] at hc HYR
          have HYE := Aside0.mk hxe
          clear hxe
          go_wp2_with fail
          refine (members_c y l.length (by omega) HYR.out.1 HYR.out.2.1 _ (HT1.out.below HB.out)).mono ?_
          rintro e w3 ⟨v, rfl, ho, hb⟩
          obtain ⟨A3, c3, rfl, _⟩ := OI_shape ho
          have HO3 := Aside0.mk (OI_C ho)
          have HB3 := Aside0.mk (below_step HB.out hb)
          have HBQ3 := Aside0.mk (below_step HBq.out hb)
          clear ho hb hx0 hx1 hc HB HBq
          go_wp2
          go_loopw [35] (fun i wr => ∃ qc : Nat, qc ≤ (bitsOf y).length ∧ i = .int .i64 qc ∧ Aside0 (∀ i : Nat, i < qc → thAt l a (b : Int) (rd (bitsOf y) i) = none) ∧ Aside0 (Below w3.heap.size w3 wr)) (fun i _ => (bitsOf y).length - (intOf i).toNat)
          case atStart => exact ⟨0, Nat.zero_le _, rfl, ⟨fun i hi => by omega⟩, ⟨Below.refl _ _⟩⟩
          case round =>
            obtain ⟨qc, hqc, rfl, HCC, HBq⟩ := hrel
            have hblc : (bitsOf y).length ≤ 62 := bitsTo_len _ _
            have HB := Aside0.mk (below_step HB3.out HBq.out)
            obtain ⟨hx0, hx1⟩ := box2 (blk_below HX1.out HB.out)
            by_cases lqc : qc < (bitsOf y).length
            · obtain ⟨adqc, rfl, hcqc⟩ := Kd.at_int (Kd.C_below HO3.out HBq.out) qc (by omega) (by omega)
              rw [Int.toNat_natCast] at hcqc
              obtain ⟨c, ec, lc, _⟩ := bit_at HV.out lb (q := qc) (by rw [← HYE.out]; exact lqc)
              rw [← HYE.out] at ec
              rw [ec] at hcqc
              have HEc := Aside0.mk ec
              clear ec
              obtain ⟨ad4, rfl, hc4⟩ := Kd.at_int (Kd.C_below HN.out HB.out) a (by omega) (by have := Hnl.out; omega)
              obtain ⟨adb, e5, hcb⟩ := Kd.at_int (Kd.C_below HN.out HB.out) b (by omega) (by have := Hnl.out; omega)
              injection e5 with e5
              subst e5
              obtain ⟨adc, e5, hcc⟩ := Kd.at_int (Kd.C_below HN.out HB.out) c (by omega) (by have := Hnl.out; omega)
              injection e5 with e5
              subst e5
              rw [Int.toNat_natCast, nearL_rd la] at hc4
              rw [Int.toNat_natCast, nearL_rd lb] at hcb
              rw [Int.toNat_natCast, nearL_rd lc] at hcc
              have hna : a < (nearL l).length := by have := Hnl.out; omega
              have hnb : b < (nearL l).length := by have := Hnl.out; omega
              have hnc : c < (nearL l).length := by have := Hnl.out; omega
              obtain ⟨s, hse⟩ : ∃ s, bits .and .i64 (bits .and .i64 (near l a) (near l b)) (near l c) = s := ⟨_, rfl⟩
              have HSE : Aside0 (thS l a b c = s) := ⟨by rw [← hse]; rfl⟩
              have HSS := Aside0.mk (thS_spec HV.out la lb lc)
              rw [HSE.out] at HSS
              by_cases hs0 : s = 0
              · have ht : (s != 0) = false := by simp [hs0]
                have Hn : Aside0 (thAt l a (b : Int) (rd (bitsOf y) qc) = none) := ⟨by rw [HEc.out, thAt, HSE.out, if_pos hs0]⟩
                clear hs0
                go_wp2
                go_quiet (fail)
                go_wp2
                go_roundw
                case rel => exact ⟨qc + 1, by omega, by go_num, ⟨upto_next (f := fun q => thAt l a (b : Int) (rd (bitsOf y) q)) HCC.out Hn.out⟩, ⟨pw_below_drewN HBq.out _⟩⟩
                case measure => simp [intOf]; omega
              · have ht : (s != 0) = true := by simp [hs0]
                have Hn : Aside0 (thAt l a (b : Int) (rd (bitsOf y) qc) = some [(a : Int), (b : Int), (c : Int), rd (bitsOf s) 0]) := ⟨by rw [HEc.out, thAt, HSE.out, if_neg hs0]⟩
                have HP := Aside0.mk (bits_pos (by omega) HSS.out.1 HSS.out.2.1 hs0)
                have hp := HP.out
                clear hs0
                go_wp2
                go_quiet (fail)
                go_wp2_with fail
                refine (members_c s l.length (by omega) HSS.out.1 HSS.out.2.1 _ (HT1.out.below (pw_below_drewN HB.out _))).mono ?_
                rintro e w4 ⟨v4, rfl, ho4, hb4⟩
                obtain ⟨A4, c4, rfl, _⟩ := OI_shape ho4
                have HB4 := Aside0.mk (below_step (pw_below_drewN HB.out _) hb4)
                obtain ⟨ad6, rfl, hc6⟩ := Kd.at_int (OI_C ho4) 0 (by omega) (by omega)
                have hc7 : w4.cell? ad6 = some (.int .i64 (rd (bitsOf s) 0)) := hc6
                clear ho4 hb4 hc6
                go_wp2
                go_ret
                have Hf : thF l = some [(a : Int), (b : Int), (c : Int), rd (bitsOf s) 0] := scan_some _ _ a (fun i _ h => HAA.out i h) (Nat.zero_le _) (by omega) (by
                      rw [thB, fst, ← HXE.out]
                      exact scan_some _ _ qb (fun i _ h => HBB.out i h) (Nat.zero_le _) (by omega) (by
                        rw [HEb.out, thC, fst, ← HYE.out]
                        exact scan_some _ _ qc (fun i _ h => HCC.out i h) (Nat.zero_le _) (by omega) Hn.out))
                exact ⟨_, rfl, OptI_lit4 (below_step HB1.out HB4.out).size Hf, below_alloc (below_step HB1.out HB4.out) _⟩
            · have Hn : Aside0 (thC l a (rd (bitsOf x) qb) = none) := ⟨by rw [HEb.out, thC, fst, ← HYE.out]; exact scan_none _ _ (fun i _ h => HCC.out i (by omega))⟩
              go_wp2
              go_roundw
              case rel => exact ⟨qb + 1, by omega, by go_num, ⟨upto_next (f := fun q => thC l a (rd (bitsOf x) q)) HBB.out Hn.out⟩, ⟨below_step HBQ3.out HBq.out⟩⟩
              case measure => simp [intOf]; omega
        · have Hn : Aside0 (thB l a = none) := ⟨by rw [thB, fst, ← HXE.out]; exact scan_none _ _ (fun i _ h => HBB.out i (by omega))⟩
          go_wp2
          go_roundw
          case rel => exact ⟨a + 1, by omega, by go_num, ⟨upto_next HAA.out Hn.out⟩, HB⟩
          case measure => simp [intOf]; omega
    · have Hf : Aside0 (thF l = none) := ⟨scan_none _ _ (fun i _ h => HAA.out i (by omega))⟩
      go_wp2
      go_ret
      exact ⟨_, rfl, OptI_nil _ _ Hf.out, below_step HB1.out HB.out⟩
set_option maxHeartbeats 3200000 in
set_option maxRecDepth 100000 in
theorem specThreeOne_y (l : List Int) (ho : IsOrd l) (A : Option Addr) (k : Nat) (w : World) (hr : I.C w A l.length l) :
    Calls Tryd.prog 194 #[.agg #[.int .i64 (l.length : Int), .slice A l.length k]] w fun e w' => ∃ v, e = .returned (.tuple #[v, .bool (thF l).isSome]) ∧ OptI w' w.heap.size v (thF l) ∧ Below w.heap.size w w' := by
  have HV := Aside0.mk ho.vo
  have HO := Aside0.mk (IsOrd_ord ho)
  have hv := ho.vo
  have h10 := hv.l10
  have hB := Aside0.mk (below_alloc (Below.refl w.heap.size w) (.cells #[.int .i64 (l.length : Int), .slice A l.length k] 34))
  have hX := Aside0.mk (blk_new w (.cells #[.int .i64 (l.length : Int), .slice A l.length k] 34))
  have HR := Aside0.mk (Kd.C_below hr hB.out)
  clear hr hv ho
  go_enter Tryd.func194, Tryd.ntmps194
  go_wp2_with fail
  refine (orGood_b HO.out A k _ HR.out).mono ?_
  rintro e w1 ⟨rfl, hb1⟩
  have HB1 := Aside0.mk (below_step hB.out hb1)
  have HX1 := Aside0.mk (blk_below hX.out hb1)
  have HR1 := Aside0.mk (Kd.C_below HR.out hb1)
  obtain ⟨hx0, hx1⟩ := box2 HX1.out
  clear hb1 hB hX HR
  go_wp2
  go_loopw [4] (fun i wr => ∃ a : Nat, a ≤ l.length ∧ i = .int .i64 a ∧ Aside0 (∀ i, i < a → thB l i = none) ∧ Aside0 (Below w1.heap.size w1 wr)) (fun i _ => l.length - (intOf i).toNat)
  case atStart => exact ⟨0, Nat.zero_le _, rfl, ⟨fun i hi => by omega⟩, ⟨Below.refl _ _⟩⟩
  case round =>
    clear hx0 hx1
    obtain ⟨a, ha, rfl, HAA, HB⟩ := hrel
    obtain ⟨hx0, hx1⟩ := box2 (blk_below HX1.out HB.out)
    by_cases la : a < l.length
    · obtain ⟨ad, rfl, hc⟩ := Kd.at_int (Kd.C_below HR1.out HB.out) a (by omega) (by omega)
      rw [Int.toNat_natCast] at hc
      have HXR := Aside0.mk (HV.out.rd la)
      obtain ⟨x, hxe⟩ : ∃ x, x = rd l a := ⟨_, rfl⟩
      rw [← hxe] at hc HXR
      have HXE := Aside0.mk hxe
      clear hxe
      go_wp2_with fail
      refine (orList_c x l.length (by omega) HXR.out.1 HXR.out.2.1 _).mono ?_
      rintro e w2 ⟨v, rfl, ho, hb⟩
      obtain ⟨A2, c2, rfl, _⟩ := OI_shape ho
      have HO2 := Aside0.mk (OI_C ho)
      have HB2 := Aside0.mk (below_step HB.out hb)
      clear ho hb hx0 hx1 hc HB
      go_wp2
      go_loopw [27] (fun i wr => ∃ qb : Nat, qb ≤ (bitsOf x).length ∧ i = .int .i64 qb ∧ Aside0 (∀ i : Nat, i < qb → thC l a (rd (bitsOf x) i) = none) ∧ Aside0 (Below w2.heap.size w2 wr)) (fun i _ => (bitsOf x).length - (intOf i).toNat)
      case atStart => exact ⟨0, Nat.zero_le _, rfl, ⟨fun i hi => by omega⟩, ⟨Below.refl _ _⟩⟩
      case round =>
        obtain ⟨qb, hqb, rfl, HBB, HBq⟩ := hrel
        have hblb : (bitsOf x).length ≤ 62 := bitsTo_len _ _
        have HB := Aside0.mk (below_step HB2.out HBq.out)
        obtain ⟨hx0, hx1⟩ := box2 (blk_below HX1.out HB.out)
        by_cases lqb : qb < (bitsOf x).length
        · obtain ⟨adqb, rfl, hcqb⟩ := Kd.at_int (Kd.C_below HO2.out HBq.out) qb (by omega) (by omega)
          rw [Int.toNat_natCast] at hcqb
          obtain ⟨b, eb, lb, _⟩ := bit_at HV.out la (q := qb) (by rw [← HXE.out]; exact lqb)
          rw [← HXE.out] at eb
          rw [eb] at hcqb
          have HEb := Aside0.mk eb
          clear eb
          obtain ⟨ad_, ea, hc⟩ := Kd.at_int (Kd.C_below HR1.out HB.out) b (by omega) (by omega)
          injection ea with ea
          subst ea
          rw [Int.toNat_natCast] at hc
          have HYR := Aside0.mk (HV.out.rd lb)
          obtain ⟨y, hxe⟩ : ∃ x, x = rd l b := ⟨_, rfl⟩
          rw [← hxe] at hc HYR
          have HYE := Aside0.mk hxe
          clear hxe
          go_wp2_with fail
          refine (orList_c y l.length (by omega) HYR.out.1 HYR.out.2.1 _).mono ?_
          rintro e w3 ⟨v, rfl, ho, hb⟩
          obtain ⟨A3, c3, rfl, _⟩ := OI_shape ho
          have HO3 := Aside0.mk (OI_C ho)
          have HB3 := Aside0.mk (below_step HB.out hb)
          have HBQ3 := Aside0.mk (below_step HBq.out hb)
          clear ho hb hx0 hx1 hc HB HBq
          go_wp2
          go_loopw [38] (fun i wr => ∃ qc : Nat, qc ≤ (bitsOf y).length ∧ i = .int .i64 qc ∧ Aside0 (∀ i : Nat, i < qc → thAt l a (b : Int) (rd (bitsOf y) i) = none) ∧ Aside0 (Below w3.heap.size w3 wr)) (fun i _ => (bitsOf y).length - (intOf i).toNat)
          case atStart => exact ⟨0, Nat.zero_le _, rfl, ⟨fun i hi => by omega⟩, ⟨Below.refl _ _⟩⟩
          case round =>
            obtain ⟨qc, hqc, rfl, HCC, HBq⟩ := hrel
            have hblc : (bitsOf y).length ≤ 62 := bitsTo_len _ _
            have HB := Aside0.mk (below_step HB3.out HBq.out)
            obtain ⟨hx0, hx1⟩ := box2 (blk_below HX1.out HB.out)
            by_cases lqc : qc < (bitsOf y).length
            · obtain ⟨adqc, rfl, hcqc⟩ := Kd.at_int (Kd.C_below HO3.out HBq.out) qc (by omega) (by omega)
              rw [Int.toNat_natCast] at hcqc
              obtain ⟨c, ec, lc, _⟩ := bit_at HV.out lb (q := qc) (by rw [← HYE.out]; exact lqc)
              rw [← HYE.out] at ec
              rw [ec] at hcqc
              have HEc := Aside0.mk ec
              clear ec
              have HX4 := Aside0.mk (blk_drew (blk_below HX1.out HB.out))
              have HR4 := Aside0.mk (Kd.C_drew (Kd.C_below HR1.out HB.out))
              obtain ⟨s, hse⟩ : ∃ s, bits .and .i64 (bits .and .i64 (near l a) (near l b)) (near l c) = s := ⟨_, rfl⟩
              have HSE : Aside0 (thS l a b c = s) := ⟨by rw [← hse]; rfl⟩
              have HSS := Aside0.mk (thS_spec HV.out la lb lc)
              rw [HSE.out] at HSS
              by_cases hs0 : s = 0
              · have hle : ¬ 0 < (bitsOf s).length := by rw [hs0]; decide
                have Hn : Aside0 (thAt l a (b : Int) (rd (bitsOf y) qc) = none) := ⟨by rw [HEc.out, thAt, HSE.out, if_pos hs0]⟩
                clear hs0
                go_wp2
                go_region_held3 (fun w' => w'.cell? ⟨w.heap.size, 0, none⟩ = some (.int .i64 (l.length : Int)) ∧ w'.cell? ⟨w.heap.size, 1, none⟩ = some (.slice (some ad) l.length k)) (first | exact ⟨hx0, hx1⟩ | exact box2 (blk_below HX4.out (below_step (below_step (below_step h5 h6) h8) h7)) | exact box2 (blk_below HX4.out (below_step (below_step h5 h6) h8)) | exact box2 (blk_below HX4.out (below_step h5 h6)) | exact box2 (blk_below HX4.out h5))
                  (first | (go_at_call 206; (first | (with_reducible refine (orFree_c l HV.out a la _ k _ HR4.out).mono ?_) | (with_reducible refine (orFree_c l HV.out b lb _ k _ HR4.out).mono ?_) | (with_reducible refine (orFree_c l HV.out c lc _ k _ HR4.out).mono ?_)); rintro e w5 ⟨rfl, h5⟩) | (go_at_call 206; (first | (with_reducible refine (orFree_c l HV.out a la _ k _ (Kd.C_below HR4.out h5)).mono ?_) | (with_reducible refine (orFree_c l HV.out b lb _ k _ (Kd.C_below HR4.out h5)).mono ?_) | (with_reducible refine (orFree_c l HV.out c lc _ k _ (Kd.C_below HR4.out h5)).mono ?_)); rintro e w6 ⟨rfl, h6⟩) | (go_at_call 206; (first | (with_reducible refine (orFree_c l HV.out a la _ k _ (Kd.C_below HR4.out (below_step h5 h6))).mono ?_) | (with_reducible refine (orFree_c l HV.out b lb _ k _ (Kd.C_below HR4.out (below_step h5 h6))).mono ?_) | (with_reducible refine (orFree_c l HV.out c lc _ k _ (Kd.C_below HR4.out (below_step h5 h6))).mono ?_)); rintro e w8 ⟨rfl, h8⟩) | (go_at_call 162; with_reducible refine (orList_c s l.length (by omega) HSS.out.1 HSS.out.2.1 _).mono ?_; rintro e w7 ⟨v7, rfl, ho7, h7⟩; obtain ⟨A7, c7, rfl, _⟩ := OI_shape ho7; have HO7 := Aside0.mk (OI_C ho7); clear ho7))
                all_goals
                  have HB7 := Aside0.mk (below_step (below_drew1 HBq.out) (below_step (below_step (below_step h5 h6) h8) h7))
                  have HB8 := Aside0.mk (below_step (below_drew1 HB.out) (below_step (below_step (below_step h5 h6) h8) h7))
                  clear h5 h6 h8 h7 hx0 hx1
                  go_wp2
                  go_loop [55] (fun i => i = .int .i64 0) (fun _ => 0)
                  case atStart => rfl
                  case round =>
                    obtain rfl := hrel
                    go_wp2
                    go_roundw
                    case rel => exact ⟨qc + 1, by omega, by go_num, ⟨upto_next (f := fun q => thAt l a (b : Int) (rd (bitsOf y) q)) HCC.out Hn.out⟩, HB7⟩
                    case measure => simp [intOf]; omega
              · have hle : 0 < (bitsOf s).length := bits_pos (by omega) HSS.out.1 HSS.out.2.1 hs0
                have Hn : Aside0 (thAt l a (b : Int) (rd (bitsOf y) qc) = some [(a : Int), (b : Int), (c : Int), rd (bitsOf s) 0]) := ⟨by rw [HEc.out, thAt, HSE.out, if_neg hs0]⟩
                clear hs0
                go_wp2
                go_region_held3 (fun w' => w'.cell? ⟨w.heap.size, 0, none⟩ = some (.int .i64 (l.length : Int)) ∧ w'.cell? ⟨w.heap.size, 1, none⟩ = some (.slice (some ad) l.length k)) (first | exact ⟨hx0, hx1⟩ | exact box2 (blk_below HX4.out (below_step (below_step (below_step h5 h6) h8) h7)) | exact box2 (blk_below HX4.out (below_step (below_step h5 h6) h8)) | exact box2 (blk_below HX4.out (below_step h5 h6)) | exact box2 (blk_below HX4.out h5))
                  (first | (go_at_call 206; (first | (with_reducible refine (orFree_c l HV.out a la _ k _ HR4.out).mono ?_) | (with_reducible refine (orFree_c l HV.out b lb _ k _ HR4.out).mono ?_) | (with_reducible refine (orFree_c l HV.out c lc _ k _ HR4.out).mono ?_)); rintro e w5 ⟨rfl, h5⟩) | (go_at_call 206; (first | (with_reducible refine (orFree_c l HV.out a la _ k _ (Kd.C_below HR4.out h5)).mono ?_) | (with_reducible refine (orFree_c l HV.out b lb _ k _ (Kd.C_below HR4.out h5)).mono ?_) | (with_reducible refine (orFree_c l HV.out c lc _ k _ (Kd.C_below HR4.out h5)).mono ?_)); rintro e w6 ⟨rfl, h6⟩) | (go_at_call 206; (first | (with_reducible refine (orFree_c l HV.out a la _ k _ (Kd.C_below HR4.out (below_step h5 h6))).mono ?_) | (with_reducible refine (orFree_c l HV.out b lb _ k _ (Kd.C_below HR4.out (below_step h5 h6))).mono ?_) | (with_reducible refine (orFree_c l HV.out c lc _ k _ (Kd.C_below HR4.out (below_step h5 h6))).mono ?_)); rintro e w8 ⟨rfl, h8⟩) | (go_at_call 162; with_reducible refine (orList_c s l.length (by omega) HSS.out.1 HSS.out.2.1 _).mono ?_; rintro e w7 ⟨v7, rfl, ho7, h7⟩; obtain ⟨A7, c7, rfl, _⟩ := OI_shape ho7; have HO7 := Aside0.mk (OI_C ho7); clear ho7))
                all_goals
                  have HB7 := Aside0.mk (below_step (below_drew1 HBq.out) (below_step (below_step (below_step h5 h6) h8) h7))
                  have HB8 := Aside0.mk (below_step (below_drew1 HB.out) (below_step (below_step (below_step h5 h6) h8) h7))
                  clear h5 h6 h8 h7 hx0 hx1
                  obtain ⟨ad6, rfl, hc6⟩ := Kd.at_int HO7.out 0 (by omega) (by omega)
                  have Hf : Aside0 (thF l = some [(a : Int), (b : Int), (c : Int), rd (bitsOf s) 0]) := ⟨scan_some _ _ a (fun i _ h => HAA.out i h) (Nat.zero_le _) (by omega) (by
                        rw [thB, fst, ← HXE.out]
                        exact scan_some _ _ qb (fun i _ h => HBB.out i h) (Nat.zero_le _) (by omega) (by
                          rw [HEb.out, thC, fst, ← HYE.out]
                          exact scan_some _ _ qc (fun i _ h => HCC.out i h) (Nat.zero_le _) (by omega) Hn.out))⟩
                  have hc7 : w7.cell? ad6 = some (.int .i64 (rd (bitsOf s) 0)) := hc6
                  clear hc6
                  go_wp2
                  go_loop [55] (fun i => i = .int .i64 0) (fun _ => 0)
                  case atStart => rfl
                  case round =>
                    obtain rfl := hrel
                    go_wp2
                    go_ret2
                    exact ⟨_, ret_tb (by rw [Hf.out]; rfl), OptI_lit4 (below_step HB1.out HB8.out).size Hf.out, below_alloc (below_step HB1.out HB8.out) _⟩
            · have Hn : Aside0 (thC l a (rd (bitsOf x) qb) = none) := ⟨by rw [HEb.out, thC, fst, ← HYE.out]; exact scan_none _ _ (fun i _ h => HCC.out i (by omega))⟩
              go_wp2
              go_roundw
              case rel => exact ⟨qb + 1, by omega, by go_num, ⟨upto_next (f := fun q => thC l a (rd (bitsOf x) q)) HBB.out Hn.out⟩, ⟨below_step HBQ3.out HBq.out⟩⟩
              case measure => simp [intOf]; omega
        · have Hn : Aside0 (thB l a = none) := ⟨by rw [thB, fst, ← HXE.out]; exact scan_none _ _ (fun i _ h => HBB.out i (by omega))⟩
          go_wp2
          go_roundw
          case rel => exact ⟨a + 1, by omega, by go_num, ⟨upto_next HAA.out Hn.out⟩, HB⟩
          case measure => simp [intOf]; omega
    · have Hf : Aside0 (thF l = none) := ⟨scan_none _ _ (fun i _ h => HAA.out i (by omega))⟩
      go_wp2
      go_ret2
      exact ⟨_, ret_tb (by rw [Hf.out]; rfl), OptI_nil _ _ Hf.out, below_step HB1.out HB.out⟩
end Go.Proofs.YtgffgmfjoepjoaaDoor.M
