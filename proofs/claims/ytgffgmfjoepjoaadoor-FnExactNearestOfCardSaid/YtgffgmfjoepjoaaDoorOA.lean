/- The reference's TwoOneOf. -/
import Derived.Test.YtgffgmfjoepjoaaDoorO9
set_option linter.unusedVariables false
set_option linter.unusedSimpArgs false
namespace Go.Proofs.YtgffgmfjoepjoaaDoor.M
open Go.RowKit Go.Proofs.YtgffgmfjoepjoaaDoorW.PrintWords
theorem IsOrder_b {s : Int} {l : List Int} {b : Bool} (h : ordB s l = b) (A : Option Addr) (k0 : Nat) (w : World) (hr : I.C w A l.length l) (hT : DB w) :
    Calls Tryd.prog 45 #[.agg #[.int .i64 s, .slice A l.length k0]] w fun e w' => e = .returned (.bool b) ∧ Below w.heap.size w w' := by subst h; exact IsOrder_c s l A k0 w hr hT
theorem orGood_b {s : Int} {l : List Int} {b : Bool} (h : ordB s l = b) (A : Option Addr) (k0 : Nat) (w : World) (hr : I.C w A l.length l) :
    Calls Tryd.prog 102 #[.agg #[.int .i64 s, .slice A l.length k0]] w fun e w' => e = .returned (.bool b) ∧ Below w.heap.size w w' := by subst h; exact orGood_c s l A k0 w hr
set_option maxHeartbeats 1600000 in
set_option maxRecDepth 100000 in
theorem specTwoOne_y (l : List Int) (ho : IsOrd l) (A : Option Addr) (k : Nat) (w : World) (hr : I.C w A l.length l) :
    Calls Tryd.prog 193 #[.agg #[.int .i64 (l.length : Int), .slice A l.length k]] w fun e w' => ∃ v, e = .returned (.tuple #[v, .bool (twoF l).isSome]) ∧ OptI w' w.heap.size v (twoF l) ∧ Below w.heap.size w w' := by
  have HV := Aside0.mk ho.vo
  have HO := Aside0.mk (IsOrd_ord ho)
  have hv := ho.vo
  have h10 := hv.l10
  have hB := Aside0.mk (below_alloc (Below.refl w.heap.size w) (.cells #[.int .i64 (l.length : Int), .slice A l.length k] 34))
  have hX := Aside0.mk (blk_new w (.cells #[.int .i64 (l.length : Int), .slice A l.length k] 34))
  have HR := Aside0.mk (Kd.C_below hr hB.out)
  clear hr hv ho
  go_enter Tryd.func193, Tryd.ntmps193
  go_wp2_with fail
  refine (orGood_b HO.out A k _ HR.out).mono ?_
  rintro e w1 ⟨rfl, hb1⟩
  have HB1 := Aside0.mk (below_step hB.out hb1)
  have HX1 := Aside0.mk (blk_below hX.out hb1)
  have HR1 := Aside0.mk (Kd.C_below HR.out hb1)
  obtain ⟨hx0, hx1⟩ := box2 HX1.out
  clear hb1 hB hX HR
  go_wp2
  go_loopw [4] (fun i wr => ∃ a : Nat, a ≤ l.length ∧ i = .int .i64 a ∧ Aside0 (∀ i, i < a → twoIn l i = none) ∧ Aside0 (Below w1.heap.size w1 wr)) (fun i _ => l.length - (intOf i).toNat)
  case atStart => exact ⟨0, Nat.zero_le _, rfl, ⟨fun i hi => by omega⟩, ⟨Below.refl _ _⟩⟩
  case round =>
    clear hx0 hx1
    obtain ⟨a, ha, rfl, HA, HB⟩ := hrel
    obtain ⟨hx0, hx1⟩ := box2 (blk_below HX1.out HB.out)
    by_cases hlt : a < l.length
    · obtain ⟨ad, rfl, hc⟩ := Kd.at_int (Kd.C_below HR1.out HB.out) a (by omega) (by omega)
      rw [Int.toNat_natCast] at hc
      obtain ⟨x, hxe⟩ : ∃ x, x = rd l a := ⟨_, rfl⟩
      have HXR := Aside0.mk (HV.out.rd hlt)
      rw [← hxe] at hc HXR
      have Hxe := Aside0.mk hxe
      clear hxe
      go_wp2_with fail
      refine (orList_c x l.length (by omega) HXR.out.1 HXR.out.2.1 _).mono ?_
      rintro e w2 ⟨v2, rfl, ho2, hb2⟩
      obtain ⟨A2, c2, rfl, _⟩ := OI_shape ho2
      have HO2 := Aside0.mk (OI_C ho2)
      have HB2 := Aside0.mk (below_step HB.out hb2)
      clear ho2 hb2 HB hx0 hx1 hc
      go_wp2
      go_loopw [25] (fun i wr => ∃ q : Nat, q ≤ (bitsOf x).length ∧ i = .int .i64 q ∧ Aside0 (∀ i : Nat, i < q → twoAt l a (rd (bitsOf x) i) = none) ∧ Aside0 (Below w2.heap.size w2 wr)) (fun i _ => (bitsOf x).length - (intOf i).toNat)
      case atStart => exact ⟨0, Nat.zero_le _, rfl, ⟨fun i hi => by omega⟩, ⟨Below.refl _ _⟩⟩
      case round =>
        obtain ⟨q, hq, rfl, HQ, HB⟩ := hrel
        have hbl : (bitsOf x).length ≤ 62 := bitsTo_len _ _
        have HB3 := Aside0.mk (below_step HB2.out HB.out)
        by_cases hq1 : q < (bitsOf x).length
        · obtain ⟨ad3, rfl, hc3⟩ := Kd.at_int (Kd.C_below HO2.out HB.out) q (by omega) (by omega)
          rw [Int.toNat_natCast] at hc3
          obtain ⟨b, hb1, hb2, _⟩ := bit_at HV.out hlt (q := q) (by rw [← Hxe.out]; exact hq1)
          rw [← Hxe.out] at hb1
          rw [hb1] at hc3
          have Hb1 := Aside0.mk hb1
          clear hb1
          obtain ⟨hx0, hx1⟩ := box2 (blk_below HX1.out HB3.out)
          have HX4 := Aside0.mk (blk_drew (blk_below HX1.out HB3.out))
          have HR4 := Aside0.mk (Kd.C_drew (Kd.C_below HR1.out HB3.out))
          obtain ⟨s, hse⟩ : ∃ s, bits .and .i64 (near l a) (near l b) = s := ⟨_, rfl⟩
          have HSE : Aside0 (twoS l a b = s) := ⟨by rw [← hse]; rfl⟩
          have HSS := Aside0.mk (twoS_spec HV.out hlt hb2)
          rw [HSE.out] at HSS
          by_cases hs0 : s = 0
          · have hle : ¬ 0 < (bitsOf s).length := by rw [hs0]; decide
            have Hn : Aside0 (twoAt l a (rd (bitsOf x) q) = none) := ⟨by rw [Hb1.out, twoAt, HSE.out, if_pos hs0]⟩
            clear hs0
            go_wp2
            go_region_held3 (fun w' => w'.cell? ⟨w.heap.size, 0, none⟩ = some (.int .i64 (l.length : Int)) ∧ w'.cell? ⟨w.heap.size, 1, none⟩ = some (.slice (some ad) l.length k)) (first | exact ⟨hx0, hx1⟩ | exact box2 (blk_below HX4.out (below_step (below_step h5 h6) h7)) | exact box2 (blk_below HX4.out (below_step h5 h6)) | exact box2 (blk_below HX4.out h5))
              (first | (go_at_call 206; with_reducible refine (orFree_c l HV.out a hlt _ k _ HR4.out).mono ?_; rintro e w5 ⟨rfl, h5⟩) | (go_at_call 206; with_reducible refine (orFree_c l HV.out b hb2 _ k _ HR4.out).mono ?_; rintro e w5 ⟨rfl, h5⟩) | (go_at_call 206; with_reducible refine (orFree_c l HV.out a hlt _ k _ (Kd.C_below HR4.out h5)).mono ?_; rintro e w6 ⟨rfl, h6⟩) | (go_at_call 206; with_reducible refine (orFree_c l HV.out b hb2 _ k _ (Kd.C_below HR4.out h5)).mono ?_; rintro e w6 ⟨rfl, h6⟩) | (go_at_call 162; with_reducible refine (orList_c s l.length (by omega) HSS.out.1 HSS.out.2.1 _).mono ?_; rintro e w7 ⟨v7, rfl, ho7, h7⟩; obtain ⟨A7, c7, rfl, _⟩ := OI_shape ho7; have HO7 := Aside0.mk (OI_C ho7); clear ho7))
            all_goals
              have HB7 := Aside0.mk (below_step (below_drew1 HB.out) (below_step (below_step h5 h6) h7))
              have HB8 := Aside0.mk (below_step (below_drew1 HB3.out) (below_step (below_step h5 h6) h7))
              clear h5 h6 h7 hx0 hx1
              go_wp2
              go_loop [38] (fun i => i = .int .i64 0) (fun _ => 0)
              case atStart => rfl
              case round =>
                obtain rfl := hrel
                go_wp2
                go_roundw
                case rel => exact ⟨q + 1, by omega, by go_num, ⟨fun i hi => by rcases Nat.lt_or_ge i q with h | h; exact HQ.out i h; rw [show i = q by omega]; exact Hn.out⟩, HB7⟩
                case measure => simp [intOf]; omega
          · have hle : 0 < (bitsOf s).length := bits_pos (by omega) HSS.out.1 HSS.out.2.1 hs0
            have Hn : Aside0 (twoAt l a (rd (bitsOf x) q) = some [(a : Int), (b : Int), rd (bitsOf s) 0]) := ⟨by rw [Hb1.out, twoAt, HSE.out, if_neg hs0]⟩
            clear hs0
            go_wp2
            go_region_held3 (fun w' => w'.cell? ⟨w.heap.size, 0, none⟩ = some (.int .i64 (l.length : Int)) ∧ w'.cell? ⟨w.heap.size, 1, none⟩ = some (.slice (some ad) l.length k)) (first | exact ⟨hx0, hx1⟩ | exact box2 (blk_below HX4.out (below_step (below_step h5 h6) h7)) | exact box2 (blk_below HX4.out (below_step h5 h6)) | exact box2 (blk_below HX4.out h5))
              (first | (go_at_call 206; with_reducible refine (orFree_c l HV.out a hlt _ k _ HR4.out).mono ?_; rintro e w5 ⟨rfl, h5⟩) | (go_at_call 206; with_reducible refine (orFree_c l HV.out b hb2 _ k _ HR4.out).mono ?_; rintro e w5 ⟨rfl, h5⟩) | (go_at_call 206; with_reducible refine (orFree_c l HV.out a hlt _ k _ (Kd.C_below HR4.out h5)).mono ?_; rintro e w6 ⟨rfl, h6⟩) | (go_at_call 206; with_reducible refine (orFree_c l HV.out b hb2 _ k _ (Kd.C_below HR4.out h5)).mono ?_; rintro e w6 ⟨rfl, h6⟩) | (go_at_call 162; with_reducible refine (orList_c s l.length (by omega) HSS.out.1 HSS.out.2.1 _).mono ?_; rintro e w7 ⟨v7, rfl, ho7, h7⟩; obtain ⟨A7, c7, rfl, _⟩ := OI_shape ho7; have HO7 := Aside0.mk (OI_C ho7); clear ho7))
            all_goals
              have HB7 := Aside0.mk (below_step (below_drew1 HB.out) (below_step (below_step h5 h6) h7))
              have HB8 := Aside0.mk (below_step (below_drew1 HB3.out) (below_step (below_step h5 h6) h7))
              clear h5 h6 h7 hx0 hx1
              obtain ⟨ad6, rfl, hc6⟩ := Kd.at_int HO7.out 0 (by omega) (by omega)
              have Hf : Aside0 (twoF l = some [(a : Int), (b : Int), rd (bitsOf s) 0]) := ⟨scan_some _ _ a (fun i _ h => HA.out i h) (Nat.zero_le _) (by omega) (by
                rw [twoIn, fst, ← Hxe.out]
                exact scan_some _ _ q (fun i _ h => HQ.out i h) (Nat.zero_le _) (by omega) Hn.out)⟩
              have hc7 : w7.cell? ad6 = some (.int .i64 (rd (bitsOf s) 0)) := hc6
              clear hc6
              go_wp2
              go_loop [38] (fun i => i = .int .i64 0) (fun _ => 0)
              case atStart => rfl
              case round =>
                obtain rfl := hrel
                go_wp2
                go_ret2
                exact ⟨_, ret_tb (by rw [Hf.out]; rfl), OptI_lit3 (below_step HB1.out HB8.out).size Hf.out, below_alloc (below_step HB1.out HB8.out) _⟩
        · have Hn : Aside0 (twoIn l a = none) := ⟨by rw [twoIn, fst, ← Hxe.out]; exact scan_none _ _ (fun i _ h => HQ.out i (by omega))⟩
          go_wp2
          go_roundw
          case rel => exact ⟨a + 1, by omega, by go_num, ⟨fun i hi => by rcases Nat.lt_or_ge i a with h | h; exact HA.out i h; rw [show i = a by omega]; exact Hn.out⟩, HB3⟩
          case measure => simp [intOf]; omega
    · have Hf : Aside0 (twoF l = none) := ⟨scan_none _ _ (fun i _ h => HA.out i (by omega))⟩
      go_wp2
      go_ret2
      exact ⟨_, ret_tb (by rw [Hf.out]; rfl), OptI_nil _ _ Hf.out, below_step HB1.out HB.out⟩
end Go.Proofs.YtgffgmfjoepjoaaDoor.M
