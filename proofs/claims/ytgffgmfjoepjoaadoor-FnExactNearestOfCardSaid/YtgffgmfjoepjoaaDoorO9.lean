/- Two elements one above the other and a third one indifferent to both: the program's twoOne. -/
import Derived.Test.YtgffgmfjoepjoaaDoorO5
import Derived.Test.YtgffgmfjoepjoaaDoorO8
set_option linter.unusedVariables false
set_option linter.unusedSimpArgs false
namespace Go.Proofs.YtgffgmfjoepjoaaDoor.M
open Go.RowKit Go.Proofs.YtgffgmfjoepjoaaDoorW.PrintWords
/-- The first one of a list for which something is told. -/
def fst (L : List Int) (f : Int → Option (List Int)) : Option (List Int) := scan (fun q => f (rd L q)) L.length 0
def twoS (l : List Int) (a b : Int) : Int := bits .and .i64 (near l a.toNat) (near l b.toNat)
def twoAt (l : List Int) (a b : Int) : Option (List Int) := if twoS l a b = 0 then none else some [a, b, rd (bitsOf (twoS l a b)) 0]
def twoIn (l : List Int) (a : Nat) : Option (List Int) := fst (bitsOf (rd l a)) (twoAt l a)
def twoF (l : List Int) : Option (List Int) := scan (twoIn l) l.length 0
theorem twoS_spec {l : List Int} (hv : VO l) {a b : Nat} (ha : a < l.length) (hb : b < l.length) : 0 ≤ twoS l a b ∧ twoS l a b < 2 ^ l.length ∧ ∀ i : Nat, has (twoS l a b) i = (has (near l a) i && has (near l b) i) := by
  have h1 := near_spec hv ha
  have h2 := near_spec hv hb
  rw [twoS, Int.toNat_natCast, Int.toNat_natCast]
  exact and_set (by have := hv.l10; omega) h1.1 h1.2.1 h2.1 h2.2.1
theorem bits_pos {x : Int} {n : Nat} (hn : n ≤ 62) (h0 : 0 ≤ x) (h1 : x < 2 ^ n) (hx : x ≠ 0) : 0 < (bitsOf x).length := by
  rcases Nat.eq_zero_or_pos (bitsOf x).length with h | h
  · have he : bitsOf x = [] := List.eq_nil_of_length_eq_zero h
    refine absurd ((set_zero h0 h1).2 (fun i hi => ?_)) hx
    cases hb : has x i
    · rfl
    · have := (mem_bitsOf hn h0 h1 (j := (i : Int))).2 ⟨i, rfl, hi, hb⟩
      rw [he] at this; cases this
  · exact h
theorem OptI_nil (w : World) (b : Nat) {o : Option (List Int)} (h : o = none) : OptI w b (.slice none 0 0) o := by subst h; rfl
theorem OptI_lit3 {W : World} {base : Nat} {a b c : Int} {o : Option (List Int)} (hb : base ≤ W.heap.size) (h : o = some [a, b, c]) : OptI (W.alloc (.cells #[.int .i64 a, .int .i64 b, .int .i64 c] 3)) base (.slice (some ⟨W.heap.size, 0, none⟩) 3 3) o := by
  subst h
  exact ⟨OI_lit W base [a, b, c] hb (by simp), _, _, _, rfl⟩
set_option maxHeartbeats 1600000 in
set_option maxRecDepth 100000 in
theorem twoOne_c (l : List Int) (hv : VO l) (A : Option Addr) (k : Nat) (w : World) (hr : I.C w A l.length l) (hT : DB w) :
    Calls Tryd.prog 181 #[.agg #[.int .i64 (l.length : Int), .slice A l.length k]] w fun e w' => ∃ v, e = .returned v ∧ OptI w' w.heap.size v (twoF l) ∧ Below w.heap.size w w' := by
  have HV := Aside0.mk hv
  have h10 := hv.l10
  have hB := Aside0.mk (below_alloc (Below.refl w.heap.size w) (.cells #[.int .i64 (l.length : Int), .slice A l.length k] 34))
  have hX := Aside0.mk (blk_new w (.cells #[.int .i64 (l.length : Int), .slice A l.length k] 34))
  have HR := Aside0.mk (Kd.C_below hr hB.out)
  have HT := Aside0.mk (hT.below hB.out)
  clear hr hT hv
  go_enter Tryd.func181, Tryd.ntmps181
  go_wp2_with fail
  refine (indifferent_c l HV.out A k _ HR.out).mono ?_
  rintro e w1 ⟨v1, rfl, ho1, hb1⟩
  obtain ⟨A1, c1, rfl, _⟩ := OI_shape ho1
  have HN := Aside0.mk (OI_C ho1)
  have HB1 := Aside0.mk (below_step hB.out hb1)
  have HX1 := Aside0.mk (blk_below hX.out hb1)
  have HR1 := Aside0.mk (Kd.C_below HR.out hb1)
  have HT1 := Aside0.mk (HT.out.below hb1)
  have hnl : (nearL l).length = l.length := nearTo_len _ _
  have Hnl := Aside0.mk hnl
  obtain ⟨hx0, hx1⟩ := box2 HX1.out
  clear ho1 hb1 hB hX HR HT hnl
  go_wp2
  go_loopw [12] (fun i wr => ∃ a : Nat, a ≤ l.length ∧ i = .int .i64 a ∧ Aside0 (∀ i, i < a → twoIn l i = none) ∧ Aside0 (Below w1.heap.size w1 wr)) (fun i _ => l.length - (intOf i).toNat)
  case atStart => exact ⟨0, Nat.zero_le _, rfl, ⟨fun i hi => by omega⟩, ⟨Below.refl _ _⟩⟩
  case round =>
    clear hx0 hx1
    obtain ⟨a, ha, rfl, HA, HB⟩ := hrel
    obtain ⟨hx0, hx1⟩ := box2 (blk_below HX1.out HB.out)
    by_cases hlt : a < l.length
    · obtain ⟨ad, rfl, hc⟩ := Kd.at_int (Kd.C_below HR1.out HB.out) a (by omega) (by omega)
      rw [Int.toNat_natCast] at hc
      obtain ⟨x, hxe⟩ : ∃ x, x = rd l a := ⟨_, rfl⟩
      have HXR := Aside0.mk (HV.out.rd hlt)
      rw [← hxe] at hc HXR
      have Hxe := Aside0.mk hxe
      clear hxe
      go_wp2_with fail
      refine (members_c x l.length (by omega) HXR.out.1 HXR.out.2.1 _ (HT1.out.below HB.out)).mono ?_
      rintro e w2 ⟨v2, rfl, ho2, hb2⟩
      obtain ⟨A2, c2, rfl, _⟩ := OI_shape ho2
      have HO2 := Aside0.mk (OI_C ho2)
      have HB2 := Aside0.mk (below_step HB.out hb2)
      clear ho2 hb2 HB hx0 hx1 hc
      go_wp2
      go_loopw [22] (fun i wr => ∃ q : Nat, q ≤ (bitsOf x).length ∧ i = .int .i64 q ∧ Aside0 (∀ i : Nat, i < q → twoAt l a (rd (bitsOf x) i) = none) ∧ Aside0 (Below w2.heap.size w2 wr)) (fun i _ => (bitsOf x).length - (intOf i).toNat)
      case atStart => exact ⟨0, Nat.zero_le _, rfl, ⟨fun i hi => by omega⟩, ⟨Below.refl _ _⟩⟩
      case round =>
        obtain ⟨q, hq, rfl, HQ, HB⟩ := hrel
        have hbl : (bitsOf x).length ≤ 62 := bitsTo_len _ _
        have HB3 := Aside0.mk (below_step HB2.out HB.out)
        by_cases hq1 : q < (bitsOf x).length
        · obtain ⟨ad3, rfl, hc3⟩ := Kd.at_int (Kd.C_below HO2.out HB.out) q (by omega) (by omega)
          rw [Int.toNat_natCast] at hc3
          obtain ⟨b, hb1, hb2, _⟩ := bit_at HV.out hlt (q := q) (by rw [← Hxe.out]; exact hq1)
          rw [← Hxe.out] at hb1
          rw [hb1] at hc3
          have Hb1 := Aside0.mk hb1
          clear hb1
          obtain ⟨ad4, rfl, hc4⟩ := Kd.at_int (Kd.C_below HN.out HB3.out) a (by omega) (by have := Hnl.out; omega)
          obtain ⟨ad5, e5, hc5⟩ := Kd.at_int (Kd.C_below HN.out HB3.out) b (by omega) (by have := Hnl.out; omega)
          injection e5 with e5
          subst e5
          rw [Int.toNat_natCast, nearL_rd hlt] at hc4
          rw [Int.toNat_natCast, nearL_rd hb2] at hc5
          have hal : a < (nearL l).length := by have := Hnl.out; omega
          have hbl2 : b < (nearL l).length := by have := Hnl.out; omega
          obtain ⟨s, hse⟩ : ∃ s, bits .and .i64 (near l a) (near l b) = s := ⟨_, rfl⟩
          have HSE : Aside0 (twoS l a b = s) := ⟨by rw [← hse]; rfl⟩
          have HSS := Aside0.mk (twoS_spec HV.out hlt hb2)
          rw [HSE.out] at HSS
          by_cases hs0 : s = 0
          · have ht : (s != 0) = false := by simp [hs0]
            have Hn : Aside0 (twoAt l a (rd (bitsOf x) q) = none) := ⟨by rw [Hb1.out, twoAt, HSE.out, if_pos hs0]⟩
            clear hs0
            go_wp2
            go_quiet (fail)
            go_wp2
            go_roundw
            case rel => exact ⟨q + 1, by omega, by go_num, ⟨fun i hi => by rcases Nat.lt_or_ge i q with h | h; exact HQ.out i h; rw [show i = q by omega]; exact Hn.out⟩, ⟨pw_below_drewN HB.out _⟩⟩
            case measure => simp [intOf]; omega
          · have ht : (s != 0) = true := by simp [hs0]
            have Hn : Aside0 (twoAt l a (rd (bitsOf x) q) = some [(a : Int), (b : Int), rd (bitsOf s) 0]) := ⟨by rw [Hb1.out, twoAt, HSE.out, if_neg hs0]⟩
            have HP := Aside0.mk (bits_pos (by omega) HSS.out.1 HSS.out.2.1 hs0)
            have hp := HP.out
            clear hs0
            go_wp2
            go_quiet (fail)
            go_wp2_with fail
            refine (members_c s l.length (by omega) HSS.out.1 HSS.out.2.1 _ (HT1.out.below (pw_below_drewN HB3.out _))).mono ?_
            rintro e w4 ⟨v4, rfl, ho4, hb4⟩
            obtain ⟨A4, c4, rfl, _⟩ := OI_shape ho4
            have HB4 := Aside0.mk (below_step (pw_below_drewN HB3.out _) hb4)
            obtain ⟨ad6, rfl, hc6⟩ := Kd.at_int (OI_C ho4) 0 (by omega) (by omega)
            have hc7 : w4.cell? ad6 = some (.int .i64 (rd (bitsOf s) 0)) := hc6
            clear ho4 hb4 hc6
            go_wp2
            go_ret
            have Hf : twoF l = some [(a : Int), (b : Int), rd (bitsOf s) 0] := scan_some _ _ a (fun i _ h => HA.out i h) (Nat.zero_le _) (by omega) (by
              rw [twoIn, fst, ← Hxe.out]
              exact scan_some _ _ q (fun i _ h => HQ.out i h) (Nat.zero_le _) (by omega) Hn.out)
            exact ⟨_, rfl, OptI_lit3 (below_step HB1.out HB4.out).size Hf, below_alloc (below_step HB1.out HB4.out) _⟩
        · have Hn : Aside0 (twoIn l a = none) := ⟨by rw [twoIn, fst, ← Hxe.out]; exact scan_none _ _ (fun i _ h => HQ.out i (by omega))⟩
          go_wp2
          go_roundw
          case rel => exact ⟨a + 1, by omega, by go_num, ⟨fun i hi => by rcases Nat.lt_or_ge i a with h | h; exact HA.out i h; rw [show i = a by omega]; exact Hn.out⟩, HB3⟩
          case measure => simp [intOf]; omega
    · have Hf : Aside0 (twoF l = none) := ⟨scan_none _ _ (fun i _ h => HA.out i (by omega))⟩
      go_wp2
      go_ret
      exact ⟨_, rfl, OptI_nil _ _ Hf.out, below_step HB1.out HB.out⟩
end Go.Proofs.YtgffgmfjoepjoaaDoor.M
