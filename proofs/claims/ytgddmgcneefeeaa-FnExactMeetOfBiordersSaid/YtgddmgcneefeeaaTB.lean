/- Tables: the walk of the reading's feSplit. -/
import Derived.Test.YtgddmgcneefeeaaTA
import Derived.Deep.RegionLaw
set_option linter.unusedVariables false
set_option linter.unusedSimpArgs false
namespace Go.Proofs.Ytgddmgcneefeeaa.M
open Go.RowKit Go.Proofs.YtgddmgcneefeeaaW.PrintWords
/-- A slice that reads as o, if o there is. -/
def ReadsO (w : World) (v : Value) (o : Option (List Int)) : Prop := ∀ xs, o = some xs → ∃ A c, v = .slice A xs.length c ∧ I.C w A xs.length xs
/-- What feSplit does with d numbers to go. -/
def FeSplitC (c : Nat) (m cells : List Int) (many d : Nat) : Prop := ∀ (xs : List Int) (A A1 A2 : Option Addr) (k k1 k2 n : Nat) (w : World), xs.length = n → cells.length = n + d →
    I.C w A m.length m → I.C w A1 cells.length cells → I.C w A2 n xs →
    Calls Try.prog 46 #[.agg #[.int .i64 (m.length : Int), .int .i64 (c : Int), .slice A m.length k], .slice A1 cells.length k1, .slice A2 n k2, .int .i64 (many : Int)] w fun e w' =>
      ∃ v, e = .returned (.tuple #[v, .bool (findS m c cells many d xs).isSome]) ∧ ReadsO w' v (findS m c cells many d xs) ∧ Below w.heap.size w w'
theorem size_alloc_le (W : World) (o : Obj) : W.heap.size ≤ (W.alloc o).heap.size := by show W.heap.size ≤ (W.heap.push _).size; rw [Array.size_push]; omega
theorem ReadsO.none (w : World) (v : Value) : ReadsO w v none := fun xs h => by cases h
set_option maxHeartbeats 1600000 in
set_option maxRecDepth 100000 in
theorem feSplit_step (c : Nat) (m cells : List Int) (hv : VT c m) (many : Nat) (hmany : many ≤ 4) (hcell : ∀ x ∈ cells, 0 ≤ x ∧ x ≤ 35) (hcl : cells.length ≤ 36) (d : Nat) (ih : ∀ e, e + 1 = d → FeSplitC c m cells many e) : FeSplitC c m cells many d := by
  intro xs A A1 A2 k k1 k2 n w hn hd hr hr1 hr2
  subst hn
  have IH := Aside0.mk ih
  have HR := Aside0.mk hr
  have HR1 := Aside0.mk hr1
  have HR2 := Aside0.mk hr2
  have HV := Aside0.mk hv
  have HC := Aside0.mk hcell
  have HD := Aside0.mk hd
  have hd1 : xs.length ≤ cells.length := by omega
  clear ih hr hr1 hr2 hv hcell hd
  have hX := Aside0.mk (blk_new w (.cells #[.int .i64 (m.length : Int), .int .i64 (c : Int), .slice A m.length k] 29))
  have hB := Aside0.mk (below_alloc (Below.refl w.heap.size w) (.cells #[.int .i64 (m.length : Int), .int .i64 (c : Int), .slice A m.length k] 29))
  go_enter Try.func46, Try.ntmps46
  go_wp2
  go_loopw [10] (fun i wr => ∃ g : Nat, g ≤ many ∧ i = .int .i64 g ∧ Aside0 (∀ i : Nat, i < g → okPart m c cells xs i = true) ∧ Aside0 (Below w.heap.size w wr) ∧
      Aside0 (wr.heap[w.heap.size]? = some (.cells #[.int .i64 (m.length : Int), .int .i64 (c : Int), .slice A m.length k] 29 (0, 0)))) (fun i _ => many - (intOf i).toNat)
  case atStart => exact ⟨0, Nat.zero_le _, rfl, ⟨fun i hi => by omega⟩, hB, hX⟩
  case round =>
    clear hX hB
    obtain ⟨g, hg, rfl, HF, HB, HX⟩ := hrel
    obtain ⟨hx0, hx1, hx2⟩ := box3 HX.out
    by_cases hlt : g < many
    · cases hb : okPart m c cells xs g
      all_goals
        have Hb := Aside0.mk hb
        clear hb
        go_wp2
        go_region_held3 (fun w' => w'.cell? ⟨w.heap.size, 0, none⟩ = some (.int .i64 (m.length : Int)) ∧ w'.cell? ⟨w.heap.size, 1, none⟩ = some (.int .i64 (c : Int)) ∧ w'.cell? ⟨w.heap.size, 2, none⟩ = some (.slice A m.length k)) (first | exact ⟨hx0, hx1, hx2⟩ | exact box3 HX2.out | exact box3 HX1.out)
          (first | (go_at_call 48; with_reducible refine (fePart_c cells xs g A1 A2 k1 k2 _ (Kd.C_below HR1.out (below_drew1 HB.out)) (Kd.C_below HR2.out (below_drew1 HB.out)) (by omega) (by omega)).mono ?_; rintro e w1 ⟨v1, rfl, ho1, hb1⟩; obtain ⟨A6, c6, rfl, _⟩ := OI_shape ho1; have HO1 := Aside0.mk ho1; have HB1 := Aside0.mk (below_step (below_drew1 HB.out) hb1); have HX1 := Aside0.mk (blk_below (blk_drew HX.out) hb1); clear ho1 hb1) | (go_at_call 47; with_reducible refine (feOrder_b HV.out Hb.out HC.out hcl (by omega) A _ k _ _ _ (Kd.C_below HR.out HB1.out) _ HO1.out).mono ?_; rintro e w2 ⟨v2, rfl, hb2⟩; have HB2 := Aside0.mk (below_step HB1.out hb2); have HX2 := Aside0.mk (blk_below HX1.out hb2); clear hb2))
        go_wp2
      · go_ret2
        exact ⟨_, by rw [findS_no hlt Hb.out]; rfl, by rw [findS_no hlt Hb.out]; exact ReadsO.none _ _, HB2.out⟩
      · go_roundw
        case rel => exact ⟨g + 1, by omega, by go_num, ⟨fun i hi => by rcases Nat.lt_or_ge i g with h | h; exact HF.out i h; rw [show i = g by omega]; exact Hb.out⟩, HB2, HX2⟩
        case measure => simp [intOf]; omega
    · cases d with
      | zero =>
        have hs := Aside0.mk (findS_yes0 (m := m) (C := c) (cells := cells) (xs := xs) (many := many) (fun i hi => HF.out i (by omega)))
        have hq : ((xs.length : Int) == (cells.length : Int)) = true := by have := HD.out; simp; omega
        go_wp2
        go_ret2
        exact ⟨_, by rw [hs.out]; rfl, by rw [hs.out]; intro ys h; injection h with h; subst h; exact ⟨_, _, rfl, Kd.C_below HR2.out HB.out⟩, HB.out⟩
      | succ d =>
        have hi := IH.out d rfl
        unfold FeSplitC at hi
        have IH2 := Aside0.mk hi
        clear hi
        have hs := Aside0.mk (findS_yes1 (d := d) (m := m) (C := c) (cells := cells) (xs := xs) (many := many) (fun i hi => HF.out i (by omega)))
        have hq : ((xs.length : Int) == (cells.length : Int)) = false := by have := HD.out; simp; omega
        go_wp2
        go_loopw [13] (fun i wr => ∃ g : Nat, g ≤ many ∧ i = .int .i64 g ∧ Aside0 (∀ i : Nat, i < g → findS m c cells many d (xs ++ [(i : Int)]) = none) ∧ Aside0 (Below w.heap.size w wr) ∧
            Aside0 (wr.heap[w.heap.size]? = some (.cells #[.int .i64 (m.length : Int), .int .i64 (c : Int), .slice A m.length k] 29 (0, 0)))) (fun i _ => many - (intOf i).toNat)
        case atStart => exact ⟨0, Nat.zero_le _, rfl, ⟨fun i hi => by omega⟩, HB, HX⟩
        case round =>
          clear HB HX hx0 hx1 hx2 HF hlt hg
          obtain ⟨g, hg, rfl, HF, HB, HX⟩ := hrel
          obtain ⟨hx0, hx1, hx2⟩ := box3 HX.out
          by_cases hlt : g < many
          · go_wp2
            go_cut [14, 15] (fun s14 s15 wc => s15 = .bool (findS m c cells many d (xs ++ [(g : Int)])).isSome ∧ Aside0 (ReadsO wc s14 (findS m c cells many d (xs ++ [(g : Int)]))) ∧ Aside0 (Below w.heap.size w wc) ∧
              Aside0 (wc.heap[w.heap.size]? = some (.cells #[.int .i64 (m.length : Int), .int .i64 (c : Int), .slice A m.length k] 29 (0, 0))))
            case first =>
              have HG := Aside0.mk (Kd.C_below (lit1 wr g) (below_drew1 (Below.refl _ _)))
              have HBa := Aside0.mk (below_drew1 HB.out)
              have HBb := Aside0.mk (below_drew1 (below_alloc HB.out (.cells #[.int .i64 (g : Int)] 3)))
              have HXa := Aside0.mk (blk_drew HX.out)
              have HXb := Aside0.mk (blk_drew (blk_alloc HX.out (.cells #[.int .i64 (g : Int)] 3)))
              have H0 : Aside0 (w.heap.size < wr.drew.heap.size ∧ w.heap.size < ((wr.alloc (.cells #[.int .i64 (g : Int)] 3)).drew).heap.size) := ⟨blk_lt HX.out, Nat.lt_of_lt_of_le (blk_lt HX.out) (by show wr.heap.size ≤ (wr.heap.push _).size; rw [Array.size_push]; omega)⟩
              go_region_held3 (fun w' => w'.cell? ⟨w.heap.size, 0, none⟩ = some (.int .i64 (m.length : Int)) ∧ w'.cell? ⟨w.heap.size, 1, none⟩ = some (.int .i64 (c : Int)) ∧ w'.cell? ⟨w.heap.size, 2, none⟩ = some (.slice A m.length k)) (first | exact ⟨hx0, hx1, hx2⟩ | exact box3 HX4.out | exact box3 HX3.out | exact box3 (blk_alloc HX2.out _) | exact box3 HX2.out | exact box3 (blk_alloc HX.out _))
                (first | (refine appRows_step (.tmp 47) (.tmp 49) (by rfl) rfl (.slice A6 xs.length c6) xs [(g : Int)] _ 1 1 rfl rfl (by first | exact Kd.R_alloc HO2.out _ | exact HO2.out) (by first | exact lit1 _ _ | exact Kd.C_below HG.out HS2.out) (Below.refl _ _) (by first | exact HS2.out.size | exact Nat.le_trans HS2.out.size (size_alloc_le _ _)) (by omega) ?_; intro v3 w3 ho hb hg; obtain ⟨ad7, c7, rfl, ho⟩ := OI_snoc ho; have HO3 := Aside0.mk ho; have HB3 := Aside0.mk (below_weaken (by first | exact below_alloc HB2.out _ | exact HB2.out) (Nat.le_of_lt (by first | exact H0.out.1 | exact H0.out.2)) hb); have HX3 := Aside0.mk (blk_low (by first | exact blk_alloc HX2.out _ | exact HX2.out) hb (by first | exact H0.out.1 | exact H0.out.2)); clear ho hb hg) | (go_at_call 46; with_reducible refine (IH2.out (xs ++ [(g : Int)]) A A1 _ k k1 _ _ _ (by rw [List.length_append, List.length_singleton]) (by have := HD.out; omega) (Kd.C_below HR.out HB3.out) (Kd.C_below HR1.out HB3.out) (OI_C HO3.out)).mono ?_; rintro e w4 ⟨v4, rfl, hr4, hb4⟩; have HR4 := Aside0.mk hr4; have HB4 := Aside0.mk (below_step HB3.out hb4); have HX4 := Aside0.mk (blk_below HX3.out hb4); clear hr4 hb4) | (go_at_call 85; with_reducible refine (l1Own_c xs A2 k2 _ (Kd.C_below HR2.out HBa.out) (by omega)).mono ?_; rintro e w1 ⟨v1, rfl, ho1, hb1⟩; obtain ⟨A6, c6, rfl, _⟩ := OI_shape ho1; have HO2 := Aside0.mk ho1; have HB2 := Aside0.mk (below_step HBa.out hb1); have HX2 := Aside0.mk (blk_below HXa.out hb1); have HS2 := Aside0.mk hb1; clear ho1 hb1) | (go_at_call 85; with_reducible refine (l1Own_c xs A2 k2 _ (Kd.C_below HR2.out HBb.out) (by omega)).mono ?_; rintro e w1 ⟨v1, rfl, ho1, hb1⟩; obtain ⟨A6, c6, rfl, _⟩ := OI_shape ho1; have HO2 := Aside0.mk ho1; have HB2 := Aside0.mk (below_step HBb.out hb1); have HX2 := Aside0.mk (blk_below HXb.out hb1); have HS2 := Aside0.mk hb1; clear ho1 hb1))
              all_goals (go_wp2_with fail; go_meet)
              case rel => exact ⟨rfl, HR4, HB4, HX4⟩
              case rel => exact ⟨rfl, HR4, HB4, HX4⟩
            case rest =>
              obtain ⟨rfl, HO, HB2, HX2⟩ := hcut
              cases ho : findS m c cells many d (xs ++ [(g : Int)]) with
              | none =>
                have Ho := Aside0.mk ho
                clear ho
                go_wp2
                go_roundw
                case rel => exact ⟨g + 1, by omega, by go_num, ⟨fun i hi => by rcases Nat.lt_or_ge i g with h | h; exact HF.out i h; rw [show i = g by omega]; exact Ho.out⟩, HB2, HX2⟩
                case measure => simp [intOf]; omega
              | some o =>
                have Ho := Aside0.mk ho
                have Hs := Aside0.mk (hs.out.trans (scan_some (f := fun g : Nat => findS m c cells many d (xs ++ [(g : Int)])) many 0 g (fun i _ h => HF.out i h) (Nat.zero_le _) (by omega) ho))
                clear ho
                go_wp2
                go_ret2
                exact ⟨_, by rw [Hs.out]; rfl, by rw [Hs.out, ← Ho.out]; exact HO.out, HB2.out⟩
          · have Hs := Aside0.mk (hs.out.trans (scan_none (f := fun g : Nat => findS m c cells many d (xs ++ [(g : Int)])) many 0 (fun i _ h => HF.out i (by omega))))
            go_wp2
            go_ret2
            exact ⟨_, by rw [Hs.out]; rfl, by rw [Hs.out]; exact ReadsO.none _ _, HB.out⟩
theorem feSplit_c (c : Nat) (m cells : List Int) (hv : VT c m) (many : Nat) (hmany : many ≤ 4) (hcell : ∀ x ∈ cells, 0 ≤ x ∧ x ≤ 35) (hcl : cells.length ≤ 36) : ∀ d, FeSplitC c m cells many d
  | 0 => feSplit_step c m cells hv many hmany hcell hcl 0 (fun e h => by omega)
  | d + 1 => feSplit_step c m cells hv many hmany hcell hcl (d + 1) (fun e h => by have h : e = d := by omega
                                                                                   subst h; exact feSplit_c c m cells hv many hmany hcell hcl e)
end Go.Proofs.Ytgddmgcneefeeaa.M
