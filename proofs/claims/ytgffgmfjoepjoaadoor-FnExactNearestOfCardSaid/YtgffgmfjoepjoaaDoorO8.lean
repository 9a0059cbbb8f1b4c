/- What is indifferent: the program's list of sets; the reference's orBelow and orFree. -/
import Derived.Test.YtgffgmfjoepjoaaDoorO7
set_option linter.unusedVariables false
set_option linter.unusedSimpArgs false
namespace Go.Proofs.YtgffgmfjoepjoaaDoor.M
open Go.RowKit Go.Proofs.YtgffgmfjoepjoaaDoorW.PrintWords
def nearTo (l : List Int) (k : Nat) : List Int := (List.range k).map (near l)
def nearL (l : List Int) : List Int := nearTo l l.length
theorem nearTo_succ (l : List Int) (k : Nat) : nearTo l (k + 1) = nearTo l k ++ [near l k] := by simp [nearTo, List.range_succ]
theorem nearTo_len (l : List Int) (k : Nat) : (nearTo l k).length = k := by simp [nearTo]
theorem nearL_rd {l : List Int} {i : Nat} (h : i < l.length) : rd (nearL l) i = near l i := by simp [nearL, nearTo, rd, h]
theorem cell4 {w w1 : World} {g g1 t t1 : Nat} {a b c d : Value} {p q : Addr} {x y : Value} (h : w.heap[g]? = some (.cells #[a, b] t (0, 0))) (h1 : w.heap[g1]? = some (.cells #[c, d] t1 (0, 0))) (hp : w.cell? p = some x) (hq : w.cell? q = some y) (hb : Below w.heap.size w w1) :
    w1.cell? ⟨g, 0, none⟩ = some a ∧ w1.cell? ⟨g, 1, none⟩ = some b ∧ w1.cell? ⟨g1, 0, none⟩ = some c ∧ w1.cell? ⟨g1, 1, none⟩ = some d ∧ w1.cell? p = some x ∧ w1.cell? q = some y :=
  ⟨(box2 (blk_below h hb)).1, (box2 (blk_below h hb)).2, (box2 (blk_below h1 hb)).1, (box2 (blk_below h1 hb)).2, cell_lt hb hp, cell_lt hb hq⟩
set_option maxHeartbeats 1600000 in
set_option maxRecDepth 100000 in
theorem indifferent_c (l : List Int) (hv : VO l) (A : Option Addr) (k : Nat) (w : World) (hr : I.C w A l.length l) :
    Calls Tryd.prog 196 #[.agg #[.int .i64 (l.length : Int), .slice A l.length k]] w fun e w' => ∃ v, e = .returned v ∧ OI w' w.heap.size v (nearL l) ∧ Below w.heap.size w w' := by
  have HR := Aside0.mk hr
  have HV := Aside0.mk hv
  have h10 := hv.l10
  obtain ⟨X, hX⟩ : ∃ X, X = (w.alloc (.cells #[.int .i64 (l.length : Int), .slice A l.length k] 34)).alloc (.cells #[] 3) := ⟨_, rfl⟩
  have hX1 : X.heap[w.heap.size]? = some (.cells #[.int .i64 (l.length : Int), .slice A l.length k] 34 (0, 0)) := by subst hX; exact blk_alloc (blk_new _ _) _
  have hXB : Below w.heap.size w X := by subst hX; exact below_alloc (below_alloc (Below.refl _ _) _) _
  have hXE : OI X w.heap.size (.slice (some ⟨w.heap.size + 1, 0, none⟩) 0 0) [] := by subst hX; have := OI_lit0 (w.alloc (.cells #[.int .i64 (l.length : Int), .slice A l.length k] 34)) w.heap.size (by simp); simpa using this
  have HX := Aside0.mk hX1
  have HB := Aside0.mk hXB
  have HE := Aside0.mk hXE
  have HG : Aside0 (X.heap[w.heap.size + 1]? = some (.cells #[] 3 (0, 0))) := ⟨by subst hX; exact blk_this (by simp)⟩
  obtain ⟨hx0, hx1⟩ := box2 hX1
  subst hX
  clear hr hv hX1 hXB hXE
  go_enter Tryd.func196, Tryd.ntmps196
  go_wp2_with fail
  refine (mirror_c l HV.out A k _ (Kd.C_below HR.out HB.out)).mono ?_
  rintro e w1 ⟨v1, rfl, ho, hb⟩
  obtain ⟨A1, c1, rfl, _⟩ := OI_shape ho
  have HO1 := Aside0.mk (Kd.C_alloc (OI_C ho) (.cells #[.int .i64 (l.length : Int), .slice A1 (mirL l).length c1] 34))
  have HE1 := Aside0.mk (Kd.R_alloc (Kd.R_below HE.out hb) (.cells #[.int .i64 (l.length : Int), .slice A1 (mirL l).length c1] 34))
  have HB1 := Aside0.mk (below_alloc (below_step HB.out hb) (.cells #[.int .i64 (l.length : Int), .slice A1 (mirL l).length c1] 34))
  have HX1 := Aside0.mk (blk_alloc (blk_below HX.out hb) (.cells #[.int .i64 (l.length : Int), .slice A1 (mirL l).length c1] 34))
  have HY1 := Aside0.mk (blk_new w1 (.cells #[.int .i64 (l.length : Int), .slice A1 (mirL l).length c1] 34))
  have HG1 := Aside0.mk (blk_alloc (blk_below HG.out hb) (.cells #[.int .i64 (l.length : Int), .slice A1 (mirL l).length c1] 34))
  obtain ⟨W, hW⟩ : ∃ W, W = w1.alloc (.cells #[.int .i64 (l.length : Int), .slice A1 (mirL l).length c1] 34) := ⟨_, rfl⟩
  obtain ⟨g1, hg1⟩ : ∃ g1, g1 = w1.heap.size := ⟨_, rfl⟩
  clear ho hb HE HB HX hx0 hx1
  obtain ⟨hx0, hx1⟩ := box2 HX1.out
  go_wp2
  rw [← hW] at HO1 HE1 HB1 HX1 HY1 HG1 ⊢
  rw [← hg1] at HY1 ⊢
  clear hW hg1
  have HK := Aside0.mk (C_but HO1.out HG1.out)
  have hgs : w.heap.size + 1 < W.heap.size := blk_lt HG1.out
  obtain ⟨g0, hg0⟩ : ∃ g0, g0 = w.heap.size + 1 := ⟨_, rfl⟩
  rw [← hg0] at HK HE1 hgs ⊢
  clear hg0 HO1 HG1
  go_loopw [3, 11] (fun v i wr => ∃ j : Nat, j ≤ l.length ∧ i = .int .i64 j ∧ Aside0 (OI wr w.heap.size v (nearTo l j)) ∧ Aside0 (Below w.heap.size w wr) ∧ Aside0 (KeepBut W wr g0 none) ∧ Aside0 (v.ownBlock = none ∨ v.ownBlock = some g0 ∨ ∃ b, v.ownBlock = some b ∧ W.heap.size ≤ b) ∧
      Aside0 (wr.heap[w.heap.size]? = some (.cells #[.int .i64 (l.length : Int), .slice A l.length k] 34 (0, 0))) ∧ Aside0 (wr.heap[g1]? = some (.cells #[.int .i64 (l.length : Int), .slice A1 (mirL l).length c1] 34 (0, 0)))) (fun _ i _ => l.length - (intOf i).toNat)
  case atStart => exact ⟨0, Nat.zero_le _, rfl, HE1, HB1, ⟨KeepBut.refl _ _ _⟩, ⟨.inr (.inl rfl)⟩, HX1, HY1⟩
  case round =>
    clear HE1 HB1 HX1 HY1 hx0 hx1
    obtain ⟨j, hj, rfl, HE, HB, HKB, HW, HX, HY⟩ := hrel
    obtain ⟨hx0, hx1⟩ := box2 HX.out
    obtain ⟨hy0, hy1⟩ := box2 HY.out
    by_cases hlt : j < l.length
    · obtain ⟨ad, rfl, hc⟩ := Kd.at_int (Kd.C_below HR.out HB.out) j (by omega) (by omega)
      have hml := mirL_len l
      obtain ⟨ad1, rfl, hc1⟩ := Kd.at_int (HK.out _ HKB.out) j (by omega) (by omega)
      rw [Int.toNat_natCast] at hc hc1
      rw [mirL_rd hlt] at hc1
      have Hml := Aside0.mk hml
      have hmj : j < (mirL l).length := by omega
      clear hml
      obtain ⟨P, hP, hP1, hP2, hP3⟩ := pow10 (n := j) (by omega)
      have hwP : IntKind.i64.wrap P = P := by rw [IntKind.wrap_i64]; omega
      obtain ⟨x, hxe⟩ : ∃ x, x = rd l j := ⟨_, rfl⟩
      obtain ⟨y, hye⟩ : ∃ y, y = belS l j := ⟨_, rfl⟩
      have Hx : Aside0 (rd l j = x) := ⟨hxe.symm⟩
      have Hy : Aside0 (rd (mirL l) j = y) := ⟨by rw [hye, mirL_rd hlt]⟩
      have Hn : Aside0 (near l j = bits .andNot .i64 (bits .andNot .i64 (bits .andNot .i64 (2 ^ l.length - 1) x) y) P) := ⟨by rw [hxe, hye, hP.out]; rfl⟩
      rw [← hxe] at hc
      rw [← hye] at hc1
      clear hxe hye
      have hnl := nearTo_len l j
      have Hnl : Aside0 ((nearTo l j).length ≤ 1000000000) := ⟨by omega⟩
      clear hnl
      go_wp2
      go_region_held3 (fun w' => w'.cell? ⟨w.heap.size, 0, none⟩ = some (.int .i64 (l.length : Int)) ∧ w'.cell? ⟨w.heap.size, 1, none⟩ = some (.slice (some ad) l.length k) ∧ w'.cell? ⟨g1, 0, none⟩ = some (.int .i64 (l.length : Int)) ∧ w'.cell? ⟨g1, 1, none⟩ = some (.slice (some ad1) (mirL l).length c1) ∧ w'.cell? (ad.add j) = some (.int .i64 x) ∧ w'.cell? (ad1.add j) = some (.int .i64 y)) (first | exact ⟨hx0, hx1, hy0, hy1, hc, hc1⟩ | exact cell4 (w := wr.drew) HX.out HY.out hc hc1 ‹_› | exact cell4 (w := wr.drew) HX.out HY.out hc hc1 (below_alloc ‹_› _) | exact ⟨(box2 HX3.out).1, (box2 HX3.out).2, (box2 HY3.out).1, (box2 HY3.out).2, C_cell (Kd.C_below HR.out HB3.out) hlt Hx.out, C_cell (HK.out _ HK3.out) hmj Hy.out⟩)
        (first | (go_at_call 208; with_reducible refine (all_c l.length h10 _ _).mono ?_; rintro e w2 ⟨rfl, hb2⟩) | (refine appI_step4 (w0 := w) (base := w.heap.size) (.tmp 14) (.tmp 32) (by rfl) rfl _ (nearTo l j) _ rfl rfl (Kd.R_below (Kd.R_drew HE.out) hb2) (below_step (below_drew1 HB.out) hb2) (below_step (below_drew1 HB.out) hb2).size Hnl.out ?_; intro v3 w3 ho3 hb3 hg3 ha3; have HO3 := Aside0.mk ho3; have HB3 := Aside0.mk hb3; have HK3 := Aside0.mk (keep_grown (keep_below (W := wr.drew) HKB.out hb2) hg3 HW.out); have HW3 := Aside0.mk (own_next HW.out ha3 (keep_below (W := wr.drew) HKB.out hb2).1); have HX3 := Aside0.mk (blk_grown (blk_below (blk_drew HX.out) hb2) hg3 (Kd.R_ne (Kd.R_below (Kd.R_drew HE.out) hb2) (blk_below (blk_drew HX.out) hb2) (by decide))); have HY3 := Aside0.mk (blk_grown (blk_below (blk_drew HY.out) hb2) hg3 (Kd.R_ne (Kd.R_below (Kd.R_drew HE.out) hb2) (blk_below (blk_drew HY.out) hb2) (by decide))); clear ho3 hb3 hg3 ha3 hb2))
      go_wp2
      go_roundw
      case rel => exact ⟨j + 1, by omega, by go_num, by rw [nearTo_succ, Hn.out]; exact HO3, HB3, HK3, HW3, HX3, HY3⟩
      case measure => simp [intOf]; omega
    · have e : j = l.length := by omega
      subst e
      go_wp2
      go_ret
      exact ⟨_, rfl, HE.out, HB.out⟩
set_option maxHeartbeats 800000 in
set_option maxRecDepth 100000 in
theorem orBelow_c (l : List Int) (hv : VO l) (i : Nat) (hi : i < l.length) (A : Option Addr) (k : Nat) (w : World) (hr : I.C w A l.length l) :
    Calls Tryd.prog 216 #[.agg #[.int .i64 (l.length : Int), .slice A l.length k], .int .i64 (i : Int)] w fun e w' => e = .returned (.int .i64 (belS l i)) ∧ Below w.heap.size w w' := by
  have HR := Aside0.mk hr
  have HV := Aside0.mk hv
  have h10 := hv.l10
  have hB := Aside0.mk (below_alloc (Below.refl w.heap.size w) (.cells #[.int .i64 (l.length : Int), .slice A l.length k] 34))
  clear hr hv
  go_enter Tryd.func216, Tryd.ntmps216
  go_wp2
  go_loop [5, 11] (fun s q => ∃ j : Nat, j ≤ l.length ∧ q = .int .i64 j ∧ s = .int .i64 (setTo (fun j => bet l j i) j)) (fun _ q => l.length - (intOf q).toNat)
  case atStart => exact ⟨0, Nat.zero_le _, rfl, rfl⟩
  case round =>
    obtain ⟨j, hj, rfl, rfl⟩ := hrel
    by_cases hlt : j < l.length
    · obtain ⟨ad, rfl, hc⟩ := Kd.at_int (Kd.C_below HR.out hB.out) j (by omega) (by omega)
      rw [Int.toNat_natCast] at hc
      obtain ⟨P, hP, hP1, hP2, hP3⟩ := pow10 (n := j) (by omega)
      have hx := (HV.out.rd hlt).1
      cases hb : has (rd l j) i
      · have Hn : Aside0 (setTo (fun j => bet l j i) (j + 1) = setTo (fun j => bet l j i) j) := ⟨by rw [setTo, bet, hb]; rfl⟩
        have Hb := Aside0.mk hb
        clear hb
        go_wp2_with (go_at_call 105; refine (orHas_b Hb.out _ hx (by omega) (by omega)).mono ?_; rintro e w1 ⟨rfl, rfl⟩)
        go_round
        case rel => exact ⟨j + 1, by omega, by go_num, by rw [Hn.out]⟩
        case measure => simp [intOf]; omega
      · have Hn : Aside0 (setTo (fun j => bet l j i) (j + 1) = bits .or .i64 (setTo (fun j => bet l j i) j) P) := ⟨by rw [setTo, bet, hb, hP.out]; rfl⟩
        have Hb := Aside0.mk hb
        clear hb
        go_wp2_with (go_at_call 105; refine (orHas_b Hb.out _ hx (by omega) (by omega)).mono ?_; rintro e w1 ⟨rfl, rfl⟩)
        go_round
        case rel => exact ⟨j + 1, by omega, by go_num, by rw [Hn.out]⟩
        case measure => simp [intOf]; omega
    · have e : j = l.length := by omega
      subst e
      go_wp2
      go_ret
      exact ⟨rfl, hB.out⟩
set_option maxHeartbeats 800000 in
set_option maxRecDepth 100000 in
theorem orFree_c (l : List Int) (hv : VO l) (i : Nat) (hi : i < l.length) (A : Option Addr) (k : Nat) (w : World) (hr : I.C w A l.length l) :
    Calls Tryd.prog 206 #[.agg #[.int .i64 (l.length : Int), .slice A l.length k], .int .i64 (i : Int)] w fun e w' => e = .returned (.int .i64 (near l i)) ∧ Below w.heap.size w w' := by
  have HR := Aside0.mk hr
  have HV := Aside0.mk hv
  have h10 := hv.l10
  have hX := blk_new w (.cells #[.int .i64 (l.length : Int), .slice A l.length k] 34)
  have HX := Aside0.mk hX
  have hB := Aside0.mk (below_alloc (Below.refl w.heap.size w) (.cells #[.int .i64 (l.length : Int), .slice A l.length k] 34))
  obtain ⟨P, hP, hP1, hP2, hP3⟩ := pow10 (n := i) (by omega)
  have hwP : IntKind.i64.wrap P = P := by rw [IntKind.wrap_i64]; omega
  obtain ⟨q, HQ, hq, hq1, hq2⟩ := pow10 h10
  have hw1 : IntKind.i64.wrap q = q := by rw [IntKind.wrap_i64]; omega
  have hw2 : IntKind.i64.wrap (q - 1) = q - 1 := by rw [IntKind.wrap_i64]; omega
  obtain ⟨ad, rfl, hc⟩ := Kd.at_int (Kd.C_below hr hB.out) i (by omega) (by omega)
  rw [Int.toNat_natCast] at hc
  obtain ⟨hx0, hx1⟩ := box2 hX
  have Hn : Aside0 (bits .andNot .i64 (q - 1) (bits .or .i64 (bits .or .i64 (rd l i) (belS l i)) P) = near l i) := ⟨by rw [← nearS_eq hv hi, nearS, HQ.out, hP.out]⟩
  clear hr hv hX
  go_enter Tryd.func206, Tryd.ntmps206
  go_wp2
  go_region_held3 (fun w' => w'.cell? ⟨w.heap.size, 0, none⟩ = some (.int .i64 (l.length : Int)) ∧ w'.cell? ⟨w.heap.size, 1, none⟩ = some (.slice (some ad) l.length k) ∧ w'.cell? (ad.add i) = some (.int .i64 (rd l i))) (first | exact ⟨hx0, hx1, hc⟩ | exact ⟨(box2 (blk_below (blk_drew HX.out) ‹_›)).1, (box2 (blk_below (blk_drew HX.out) ‹_›)).2, cell_lt (w := (w.alloc (.cells #[.int .i64 (l.length : Int), .slice (some ad) l.length k] 34)).drew) ‹_› hc⟩)
    (first | (go_at_call 216; with_reducible refine (orBelow_c l HV.out i hi _ k _ (Kd.C_below HR.out (below_drew1 hB.out))).mono ?_; rintro e w2 ⟨rfl, hb2⟩))
  go_wp2
  go_ret
  exact ⟨ret_int Hn.out, below_step (below_drew1 hB.out) hb2⟩
end Go.Proofs.YtgffgmfjoepjoaaDoor.M
