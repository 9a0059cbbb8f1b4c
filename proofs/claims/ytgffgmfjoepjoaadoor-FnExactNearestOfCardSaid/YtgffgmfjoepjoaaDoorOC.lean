/- Two pairs that refuse an interval order: the reference's seTwoTwo. -/
import Derived.Test.YtgffgmfjoepjoaaDoorOB
set_option linter.unusedVariables false
set_option linter.unusedSimpArgs false
namespace Go.Proofs.YtgffgmfjoepjoaaDoor.M
open Go.RowKit Go.Proofs.YtgffgmfjoepjoaaDoorW.PrintWords
def fsq {α : Type} (L : List Int) (f : Int → Option α) : Option α := scan (fun q => f (rd L q)) L.length 0
def ssAt (l : List Int) (a : Nat) (b : Int) (c : Nat) (d : Int) : Option Unit := if has (near l a) d && has (near l c) b then some () else none
def ssC (l : List Int) (a : Nat) (b : Int) (c : Nat) : Option Unit := fsq (bitsOf (rd l c)) (ssAt l a b c)
def ssD (l : List Int) (a : Nat) (b : Int) : Option Unit := scan (ssC l a b) l.length 0
def ssE (l : List Int) (a : Nat) : Option Unit := fsq (bitsOf (rd l a)) (ssD l a)
def ssF (l : List Int) : Option Unit := scan (ssE l) l.length 0
theorem upto_nextU {f : Nat → Option Unit} {q : Nat} (h : ∀ i, i < q → f i = none) (h1 : f q = none) : ∀ i, i < q + 1 → f i = none := fun i hi => by
  rcases Nat.lt_or_ge i q with h2 | h2
  · exact h i h2
  · rw [show i = q by omega]; exact h1
set_option maxHeartbeats 800000 in
theorem seInd_c (l : List Int) (hv : VO l) (i j : Nat) (hi : i < l.length) (hj : j < l.length) (A : Option Addr) (k : Nat) (w : World) (hr : I.C w A l.length l) :
    Calls Tryd.prog 195 #[.agg #[.int .i64 (l.length : Int), .slice A l.length k], .int .i64 (i : Int), .int .i64 (j : Int)] w fun e w' => e = .returned (.bool (has (near l i) j)) ∧ Below w.heap.size w w' := by
  have HV := Aside0.mk hv
  have h10 := hv.l10
  have hB := Aside0.mk (below_alloc (Below.refl w.heap.size w) (.cells #[.int .i64 (l.length : Int), .slice A l.length k] 34))
  have HR := Aside0.mk (Kd.C_below hr hB.out)
  have hn := (near_spec hv hi).1
  clear hr hv
  go_enter Tryd.func195, Tryd.ntmps195
  go_wp2_with fail
  refine (orFree_c l HV.out i hi A k _ HR.out).mono ?_
  rintro e w1 ⟨rfl, hb⟩
  have HB1 := Aside0.mk (below_step hB.out hb)
  clear hb
  go_wp2_with fail
  refine (orHas_c (near l i) (j : Int) _ hn (by omega) (by omega)).mono ?_
  rintro e w2 ⟨rfl, rfl⟩
  go_wp2
  go_ret
  exact ⟨rfl, HB1.out⟩
theorem seInd_b {l : List Int} (hv : VO l) {i j : Nat} {b : Bool} (h : has (near l i) j = b) (hi : i < l.length) (hj : j < l.length) (A : Option Addr) (k : Nat) (w : World) (hr : I.C w A l.length l) :
    Calls Tryd.prog 195 #[.agg #[.int .i64 (l.length : Int), .slice A l.length k], .int .i64 (i : Int), .int .i64 (j : Int)] w fun e w' => e = .returned (.bool b) ∧ Below w.heap.size w w' := by subst h; exact seInd_c l hv i j hi hj A k w hr
set_option maxHeartbeats 3200000 in
set_option maxRecDepth 100000 in
theorem seTwoTwo_c (l : List Int) (hv : VO l) (A : Option Addr) (k : Nat) (w : World) (hr : I.C w A l.length l) :
    Calls Tryd.prog 180 #[.agg #[.int .i64 (l.length : Int), .slice A l.length k]] w fun e w' => e = .returned (.bool (ssF l).isSome) ∧ Below w.heap.size w w' := by
  have HV := Aside0.mk hv
  have h10 := hv.l10
  have hB := Aside0.mk (below_alloc (Below.refl w.heap.size w) (.cells #[.int .i64 (l.length : Int), .slice A l.length k] 34))
  have hX := Aside0.mk (blk_new w (.cells #[.int .i64 (l.length : Int), .slice A l.length k] 34))
  have HR := Aside0.mk hr
  clear hr hv
  go_enter Tryd.func180, Tryd.ntmps180
  go_wp2
  go_loopw [3] (fun i wr => ∃ a : Nat, a ≤ l.length ∧ i = .int .i64 a ∧ Aside0 (∀ i, i < a → ssE l i = none) ∧ Aside0 (Below w.heap.size w wr) ∧ Aside0 (wr.heap[w.heap.size]? = some (.cells #[.int .i64 (l.length : Int), .slice A l.length k] 34 (0, 0)))) (fun i _ => l.length - (intOf i).toNat)
  case atStart => exact ⟨0, Nat.zero_le _, rfl, ⟨fun i hi => by omega⟩, hB, hX⟩
  case round =>
    clear hB hX
    obtain ⟨a, ha, rfl, HAA, HB, HX⟩ := hrel
    obtain ⟨hx0, hx1⟩ := box2 HX.out
    by_cases la : a < l.length
    · obtain ⟨ada, ea, hc⟩ := Kd.at_int (Kd.C_below HR.out HB.out) a (by omega) (by omega)
      subst ea
      rw [Int.toNat_natCast] at hc
      have HXR := Aside0.mk (HV.out.rd la)
      obtain ⟨x, hxe⟩ : ∃ x, x = rd l a := ⟨_, rfl⟩
      rw [← hxe] at hc HXR
      have HXE := Aside0.mk hxe
      clear hxe
      go_wp2_with fail
      refine (orList_c x l.length (by omega) HXR.out.1 HXR.out.2.1 _).mono ?_
      rintro e w2 ⟨v, rfl, ho, hb⟩
      obtain ⟨A2, c2, rfl, _⟩ := OI_shape ho
      have HO2 := Aside0.mk (OI_C ho)
      have HB2 := Aside0.mk (below_step HB.out hb)
      have HX2 := Aside0.mk (blk_below HX.out hb)
      clear ho hb hx0 hx1 hc HB HX
      go_wp2
      go_loopw [22] (fun i wr => ∃ qb : Nat, qb ≤ (bitsOf x).length ∧ i = .int .i64 qb ∧ Aside0 (∀ i : Nat, i < qb → ssD l a (rd (bitsOf x) i) = none) ∧ Aside0 (Below w2.heap.size w2 wr)) (fun i _ => (bitsOf x).length - (intOf i).toNat)
      case atStart => exact ⟨0, Nat.zero_le _, rfl, ⟨fun i hi => by omega⟩, ⟨Below.refl _ _⟩⟩
      case round =>
        obtain ⟨qb, hqb, rfl, HBB, HBq⟩ := hrel
        have hblb : (bitsOf x).length ≤ 62 := bitsTo_len _ _
        have HB := Aside0.mk (below_step HB2.out HBq.out)
        have HX := Aside0.mk (blk_below HX2.out HBq.out)
        obtain ⟨hx0, hx1⟩ := box2 HX.out
        by_cases lb : qb < (bitsOf x).length
        · obtain ⟨adqb, rfl, hcqb⟩ := Kd.at_int (Kd.C_below HO2.out HBq.out) qb (by omega) (by omega)
          rw [Int.toNat_natCast] at hcqb
          obtain ⟨b, eb, hb, _⟩ := bit_at HV.out la (q := qb) (by rw [← HXE.out]; exact lb)
          rw [← HXE.out] at eb
          rw [eb] at hcqb
          have HEb := Aside0.mk eb
          clear eb
          go_wp2
          go_loopw [6] (fun i wr => ∃ c : Nat, c ≤ l.length ∧ i = .int .i64 c ∧ Aside0 (∀ i, i < c → ssC l a (b : Int) i = none) ∧ Aside0 (Below w2.heap.size w2 wr) ∧ Aside0 (Below w.heap.size w wr) ∧ Aside0 (wr.heap[w.heap.size]? = some (.cells #[.int .i64 (l.length : Int), .slice (some ada) l.length k] 34 (0, 0)))) (fun i _ => l.length - (intOf i).toNat)
          case atStart => exact ⟨0, Nat.zero_le _, rfl, ⟨fun i hi => by omega⟩, HBq, HB, HX⟩
          case round =>
            clear HB HX HBq hx0 hx1
            obtain ⟨c, hc, rfl, HCC, HBQ, HB, HX⟩ := hrel
            obtain ⟨hx0, hx1⟩ := box2 HX.out
            by_cases lc : c < l.length
            · obtain ⟨adc, ea, hc⟩ := Kd.at_int (Kd.C_below HR.out HB.out) c (by omega) (by omega)
              injection ea with ea
              subst ea
              rw [Int.toNat_natCast] at hc
              have HYR := Aside0.mk (HV.out.rd lc)
              obtain ⟨y, hxe⟩ : ∃ x, x = rd l c := ⟨_, rfl⟩
              rw [← hxe] at hc HYR
              have HYE := Aside0.mk hxe
              clear hxe
              go_wp2_with fail
              refine (orList_c y l.length (by omega) HYR.out.1 HYR.out.2.1 _).mono ?_
              rintro e w3 ⟨v, rfl, ho, hb⟩
              obtain ⟨A3, c3, rfl, _⟩ := OI_shape ho
              have HO3 := Aside0.mk (OI_C ho)
              have HB3 := Aside0.mk (below_step HB.out hb)
              have HX3 := Aside0.mk (blk_below HX.out hb)
              have HBQ3 := Aside0.mk (below_step HBQ.out hb)
              clear ho hb hx0 hx1 hc HB HX
              go_wp2
              go_loopw [39] (fun i wr => ∃ qd : Nat, qd ≤ (bitsOf y).length ∧ i = .int .i64 qd ∧ Aside0 (∀ i : Nat, i < qd → ssAt l a (b : Int) c (rd (bitsOf y) i) = none) ∧ Aside0 (Below w3.heap.size w3 wr)) (fun i _ => (bitsOf y).length - (intOf i).toNat)
              case atStart => exact ⟨0, Nat.zero_le _, rfl, ⟨fun i hi => by omega⟩, ⟨Below.refl _ _⟩⟩
              case round =>
                obtain ⟨qd, hqd, rfl, HDD, HBq⟩ := hrel
                have hbld : (bitsOf y).length ≤ 62 := bitsTo_len _ _
                have HB := Aside0.mk (below_step HB3.out HBq.out)
                have HX := Aside0.mk (blk_below HX3.out HBq.out)
                obtain ⟨hx0, hx1⟩ := box2 HX.out
                by_cases ld : qd < (bitsOf y).length
                · obtain ⟨adqd, rfl, hcqd⟩ := Kd.at_int (Kd.C_below HO3.out HBq.out) qd (by omega) (by omega)
                  rw [Int.toNat_natCast] at hcqd
                  obtain ⟨d, ed, hd, _⟩ := bit_at HV.out lc (q := qd) (by rw [← HYE.out]; exact ld)
                  rw [← HYE.out] at ed
                  rw [ed] at hcqd
                  have HEd := Aside0.mk ed
                  clear ed
                  have HRw := Aside0.mk (Kd.C_below HR.out HB.out)
                  cases e0 : has (near l a) d
                  · skip
                    have Hn : Aside0 (ssAt l a (b : Int) c (rd (bitsOf y) qd) = none) := ⟨by rw [HEd.out, ssAt, e0]; simp⟩
                    have E0 := Aside0.mk e0
                    clear e0
                    go_wp2_with fail
                    refine (seInd_b HV.out E0.out la hd (some ada) k _ HRw.out).mono ?_
                    rintro e w10 ⟨rfl, hbb⟩
                    have HB10 := Aside0.mk (below_step HB.out hbb)
                    have HX10 := Aside0.mk (blk_below HX.out hbb)
                    have HQ10 := Aside0.mk (below_step HBq.out hbb)
                    clear hbb hx0 hx1
                    obtain ⟨hx0, hx1⟩ := box2 HX10.out
                    go_wp2
                    go_roundw
                    case rel => exact ⟨qd + 1, by omega, by go_num, ⟨upto_nextU (f := fun q => ssAt l a (b : Int) c (rd (bitsOf y) q)) HDD.out Hn.out⟩, HQ10⟩
                    case measure => simp [intOf]; omega
                  · cases e1 : has (near l c) b
                    · skip
                      have Hn : Aside0 (ssAt l a (b : Int) c (rd (bitsOf y) qd) = none) := ⟨by rw [HEd.out, ssAt, e0, e1]; simp⟩
                      have E0 := Aside0.mk e0
                      have E1 := Aside0.mk e1
                      clear e0 e1
                      go_wp2_with fail
                      refine (seInd_b HV.out E0.out la hd (some ada) k _ HRw.out).mono ?_
                      rintro e w10 ⟨rfl, hbb⟩
                      have HB10 := Aside0.mk (below_step HB.out hbb)
                      have HX10 := Aside0.mk (blk_below HX.out hbb)
                      have HQ10 := Aside0.mk (below_step HBq.out hbb)
                      clear hbb hx0 hx1
                      obtain ⟨hx0, hx1⟩ := box2 HX10.out
                      go_wp2_with fail
                      refine (seInd_b HV.out E1.out lc hb (some ada) k _ (Kd.C_below HR.out HB10.out)).mono ?_
                      rintro e w11 ⟨rfl, hbb⟩
                      have HB11 := Aside0.mk (below_step HB10.out hbb)
                      have HX11 := Aside0.mk (blk_below HX10.out hbb)
                      have HQ11 := Aside0.mk (below_step HQ10.out hbb)
                      clear hbb hx0 hx1
                      obtain ⟨hx0, hx1⟩ := box2 HX11.out
                      go_wp2
                      go_roundw
                      case rel => exact ⟨qd + 1, by omega, by go_num, ⟨upto_nextU (f := fun q => ssAt l a (b : Int) c (rd (bitsOf y) q)) HDD.out Hn.out⟩, HQ11⟩
                      case measure => simp [intOf]; omega
                    · skip
                      have Hf : Aside0 ((ssF l).isSome = true) := ⟨by
                        have h4 : ssAt l a (b : Int) c (rd (bitsOf y) qd) = some () := by rw [HEd.out, ssAt, e0, e1]; rfl
                        have h3 : ssC l a (b : Int) c = some () := by rw [ssC, fsq, ← HYE.out]; exact scan_some _ _ qd (fun i _ h => HDD.out i h) (Nat.zero_le _) (by omega) h4
                        have h2 : ssD l a (rd (bitsOf x) qb) = some () := by rw [HEb.out]; exact scan_some _ _ c (fun i _ h => HCC.out i h) (Nat.zero_le _) (by omega) h3
                        have h1 : ssE l a = some () := by rw [ssE, fsq, ← HXE.out]; exact scan_some _ _ qb (fun i _ h => HBB.out i h) (Nat.zero_le _) (by omega) h2
                        have h0 : ssF l = some () := scan_some _ _ a (fun i _ h => HAA.out i h) (Nat.zero_le _) (by omega) h1
                        rw [h0]; rfl⟩
                      have E0 := Aside0.mk e0
                      have E1 := Aside0.mk e1
                      clear e0 e1
                      go_wp2_with fail
                      refine (seInd_b HV.out E0.out la hd (some ada) k _ HRw.out).mono ?_
                      rintro e w10 ⟨rfl, hbb⟩
                      have HB10 := Aside0.mk (below_step HB.out hbb)
                      have HX10 := Aside0.mk (blk_below HX.out hbb)
                      have HQ10 := Aside0.mk (below_step HBq.out hbb)
                      clear hbb hx0 hx1
                      obtain ⟨hx0, hx1⟩ := box2 HX10.out
                      go_wp2_with fail
                      refine (seInd_b HV.out E1.out lc hb (some ada) k _ (Kd.C_below HR.out HB10.out)).mono ?_
                      rintro e w11 ⟨rfl, hbb⟩
                      have HB11 := Aside0.mk (below_step HB10.out hbb)
                      have HX11 := Aside0.mk (blk_below HX10.out hbb)
                      have HQ11 := Aside0.mk (below_step HQ10.out hbb)
                      clear hbb hx0 hx1
                      obtain ⟨hx0, hx1⟩ := box2 HX11.out
                      go_wp2
                      go_ret
                      exact ⟨ret_bool Hf.out.symm, HB11.out⟩
                · have Hn : Aside0 (ssC l a (b : Int) c = none) := ⟨by rw [ssC, fsq, ← HYE.out]; exact scan_none _ _ (fun i _ h => HDD.out i (by omega))⟩
                  go_wp2
                  go_roundw
                  case rel => exact ⟨c + 1, by omega, by go_num, ⟨upto_nextU HCC.out Hn.out⟩, ⟨below_step HBQ3.out HBq.out⟩, HB, HX⟩
                  case measure => simp [intOf]; omega
            · have Hn : Aside0 (ssD l a (rd (bitsOf x) qb) = none) := ⟨by rw [HEb.out]; exact scan_none _ _ (fun i _ h => HCC.out i (by omega))⟩
              go_wp2
              go_roundw
              case rel => exact ⟨qb + 1, by omega, by go_num, ⟨upto_nextU (f := fun q => ssD l a (rd (bitsOf x) q)) HBB.out Hn.out⟩, HBQ⟩
              case measure => simp [intOf]; omega
        · have Hn : Aside0 (ssE l a = none) := ⟨by rw [ssE, fsq, ← HXE.out]; exact scan_none _ _ (fun i _ h => HBB.out i (by omega))⟩
          go_wp2
          go_roundw
          case rel => exact ⟨a + 1, by omega, by go_num, ⟨upto_nextU HAA.out Hn.out⟩, HB, HX⟩
          case measure => simp [intOf]; omega
    · have Hf : Aside0 (ssF l = none) := ⟨scan_none _ _ (fun i _ h => HAA.out i (by omega))⟩
      go_wp2
      go_ret
      exact ⟨ret_bool (by rw [Hf.out]; rfl), HB.out⟩
end Go.Proofs.YtgffgmfjoepjoaaDoor.M
