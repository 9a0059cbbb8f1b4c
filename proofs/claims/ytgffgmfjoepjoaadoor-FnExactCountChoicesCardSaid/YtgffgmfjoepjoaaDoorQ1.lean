/- The choices of an order: the reference's table; two lists alike. -/
import Derived.Test.YtgffgmfjoepjoaaDoorQ0
set_option linter.unusedVariables false
set_option linter.unusedSimpArgs false
namespace Go.Proofs.YtgffgmfjoepjoaaDoor.M
open Go.RowKit Go.Proofs.YtgffgmfjoepjoaaDoorW.PrintWords
set_option maxHeartbeats 1600000 in
set_option maxRecDepth 100000 in
theorem cfChoice_c (l : List Int) (hv : VO l) (s : Int) (h0 : 0 ≤ s) (h1 : s < 2 ^ l.length) (A : Option Addr) (k : Nat) (w : World) (hr : I.C w A l.length l) :
    Calls Tryd.prog 156 #[.agg #[.int .i64 (l.length : Int), .slice A l.length k], .int .i64 s] w fun e w' => e = .returned (.int .i64 (ch l s)) ∧ Below w.heap.size w w' := by
  have hn : l.length ≤ 62 := by have := hv.l10; omega
  have h10 := hv.l10
  have HV := Aside0.mk hv
  have HR := Aside0.mk hr
  have H1 := Aside0.mk h1
  have HX := Aside0.mk (blk_new w (.cells #[.int .i64 (l.length : Int), .slice A l.length k] 34))
  have hB := Aside0.mk (below_alloc (Below.refl w.heap.size w) (.cells #[.int .i64 (l.length : Int), .slice A l.length k] 34))
  have hbl := bitsOf_n hn h0 h1
  have hlen : (bitsOf s).length ≤ l.length := by rw [hbl]; exact bitsTo_len _ _
  clear hv hr h1 hbl
  go_enter Tryd.func156, Tryd.ntmps156
  go_wp2_with fail
  refine (orList_c s l.length hn h0 H1.out _).mono ?_
  rintro e w1 ⟨v1, rfl, ho1, hb1⟩
  obtain ⟨A1, c1, rfl, _⟩ := OI_shape ho1
  have HO1 := Aside0.mk (OI_C ho1)
  have HB1 := Aside0.mk (below_step hB.out hb1)
  have HX1 := Aside0.mk (blk_below HX.out hb1)
  clear ho1 hb1
  go_wp2
  go_loopw [5, 11] (fun a i wr => ∃ q : Nat, q ≤ (bitsOf s).length ∧ i = .int .i64 q ∧ a = .int .i64 (chTo l s q) ∧ wr = w1) (fun _ i _ => (bitsOf s).length - (intOf i).toNat)
  case atStart => exact ⟨0, Nat.zero_le _, rfl, rfl, rfl⟩
  case round =>
    obtain ⟨q, hq, rfl, rfl, rfl⟩ := hrel
    by_cases hlt : q < (bitsOf s).length
    · obtain ⟨j, hj, hjn, hjs⟩ := bitsOf_at hn h0 H1.out hlt
      obtain ⟨ad, rfl, hc⟩ := Kd.at_int HO1.out q (by omega) (by omega)
      rw [Int.toNat_natCast] at hc
      rw [hj] at hc
      obtain ⟨hx0, hx1⟩ := box2 HX1.out
      obtain ⟨ad2, rfl, hc2⟩ := Kd.at_int (Kd.C_below HR.out HB1.out) (j : Int) (by omega) (by omega)
      rw [Int.toNat_natCast] at hc2
      obtain ⟨p, HP, hp1, hp2, hp3⟩ := pow10 (n := j) (by omega)
      have hw1 : IntKind.i64.wrap p = p := by rw [IntKind.wrap_i64]; omega
      cases hz : (bits .and .i64 (rd l j) s == 0)
      · have He : Aside0 (chTo l s (q + 1) = chTo l s q) := ⟨by rw [chTo, hj, hz]; rfl⟩
        go_wp2
        go_roundw
        case rel => exact ⟨q + 1, by omega, by go_num, by rw [He.out], trivial⟩
        case measure => simp [intOf]; omega
      · have He : Aside0 (chTo l s (q + 1) = bits .or .i64 (chTo l s q) p) := ⟨by rw [chTo, hj, hz, HP.out]; rfl⟩
        go_wp2
        go_roundw
        case rel => exact ⟨q + 1, by omega, by go_num, by rw [He.out], trivial⟩
        case measure => simp [intOf]; omega
    · have He : Aside0 (chTo l s q = ch l s) := ⟨by rw [ch, show (bitsOf s).length = q by omega]⟩
      go_wp2
      go_ret
      exact ⟨ret_int He.out, HB1.out⟩
set_option maxHeartbeats 1600000 in
set_option maxRecDepth 100000 in
theorem cfTable_c (l : List Int) (hv : VO l) (A : Option Addr) (k : Nat) (w : World) (hr : I.C w A l.length l) :
    Calls Tryd.prog 86 #[.agg #[.int .i64 (l.length : Int), .slice A l.length k]] w fun e w' => ∃ v, e = .returned v ∧ OI w' w.heap.size v (tabOf l) ∧ Below w.heap.size w w' := by
  have h10 := hv.l10
  have HV := Aside0.mk hv
  have HR := Aside0.mk hr
  have HX := Aside0.mk (blk_new w (.cells #[.int .i64 (l.length : Int), .slice A l.length k] 34))
  have hB := Aside0.mk (below_alloc (Below.refl w.heap.size w) (.cells #[.int .i64 (l.length : Int), .slice A l.length k] 34))
  obtain ⟨q, HQ, hq1, hq2, hq3⟩ := pow10 (n := l.length) (by omega)
  have hw1 : IntKind.i64.wrap q = q := by rw [IntKind.wrap_i64]; omega
  clear hv hr
  go_enter Tryd.func86, Tryd.ntmps86
  go_wp2
  go_loopw [3, 4] (fun v i wr => ∃ s : Nat, (s : Int) ≤ q ∧ i = .int .i64 s ∧ Aside0 (OI wr w.heap.size v (tabTo l s)) ∧ Aside0 (Below w.heap.size w wr) ∧ Aside0 (wr.heap[w.heap.size]? = some (.cells #[.int .i64 (l.length : Int), .slice A l.length k] 34 (0, 0)))) (fun _ i _ => q.toNat - (intOf i).toNat)
  case atStart => exact ⟨0, by omega, rfl, ⟨OI_nil _ _⟩, hB, HX⟩
  case round =>
    clear hB HX
    obtain ⟨s, hs, rfl, HO, HB, HX⟩ := hrel
    obtain ⟨hx0, hx1⟩ := box2 HX.out
    by_cases hlt : (s : Int) < q
    · have hs2 := Aside0.mk (show (s : Int) < 2 ^ l.length by rw [← HQ.out]; exact hlt)
      have hll : (tabTo l s).length ≤ 1000000000 := by rw [tabTo_len]; omega
      have Ho := Aside0.mk (tabTo_succ l s)
      go_wp2_with fail
      refine (cfChoice_c l HV.out s (by omega) hs2.out A k wr (Kd.C_below HR.out HB.out)).mono ?_
      rintro e w2 ⟨rfl, hb2⟩
      have HO2 := Aside0.mk (Kd.R_below HO.out hb2)
      have HB2 := Aside0.mk (below_step HB.out hb2)
      have HX2 := Aside0.mk (blk_below HX.out hb2)
      have hlt2 := blk_lt HX2.out
      clear hb2
      go_wp2_with (at_builtin; refine appI (.tmp 12) (.tmp 16) rfl rfl _ (tabTo l s) _ rfl rfl HO2.out HB2.out HB2.out.size hll ?_; intro v3 w3 ho3 hb3 hg3; have HO3 := Aside0.mk ho3; have HB3 := Aside0.mk hb3; have HX3 := Aside0.mk (blk_grown HX2.out hg3 (Kd.R_ne HO2.out HX2.out (by decide))); clear ho3 hb3 hg3)
      go_roundw
      case rel => exact ⟨s + 1, by omega, by go_num, by rw [Ho.out]; exact HO3, HB3, HX3⟩
      case measure => simp [intOf]; omega
    · have hs2 : s = 2 ^ l.length := by
        have h1 : (s : Int) = 2 ^ l.length := by rw [← HQ.out]; omega
        exact_mod_cast h1
      have Hs2 := Aside0.mk hs2
      clear hs2
      go_wp2
      go_ret
      exact ⟨_, rfl, by rw [tabOf, ← Hs2.out]; exact HO.out, HB.out⟩
set_option maxHeartbeats 800000 in
set_option maxRecDepth 100000 in
/-- Two lists that are unlike. -/
theorem l1Same_no (xs ys : List Int) (hne : xs ≠ ys) (A A1 : Option Addr) (c c1 : Nat) (w : World) (hr : I.C w A xs.length xs) (hr1 : I.C w A1 ys.length ys) :
    Calls Tryd.prog 87 #[.slice A xs.length c, .slice A1 ys.length c1] w fun e w' => e = .returned (.bool false) ∧ ∃ m, w' = w.drewN m := by
  have HR := Aside0.mk hr
  have HR1 := Aside0.mk hr1
  have hl := hr.2.1
  have HN := Aside0.mk hne
  clear hr hr1 hne
  by_cases hlen : xs.length = ys.length
  · have hq : ((xs.length : Int) != (ys.length : Int)) = false := by simp [hlen]
    have HL := Aside0.mk hlen
    have hlen1 : xs.length ≤ ys.length := by omega
    clear hlen
    go_enter Tryd.func87, Tryd.ntmps87
    go_wp2
    go_loopw [13] (fun i wr => ∃ j d : Nat, j ≤ xs.length ∧ i = .int .i64 j ∧ Aside0 (∀ i : Nat, i < j → rd xs i = rd ys i) ∧ wr = w.drewN d) (fun i _ => xs.length - (intOf i).toNat)
    case atStart => exact ⟨0, 0, Nat.zero_le _, rfl, ⟨fun i hi => by omega⟩, rfl⟩
    case round =>
      obtain ⟨j, d, hj, rfl, HF, rfl⟩ := hrel
      by_cases hlt : j < xs.length
      · obtain ⟨ad, rfl, hc⟩ := Kd.at_int HR.out j (by omega) (by omega)
        obtain ⟨ad1, rfl, hc1⟩ := Kd.at_int HR1.out j (by omega) (by omega)
        rw [Int.toNat_natCast] at hc hc1
        by_cases he : rd xs j = rd ys j
        · have hq1 : (rd xs j != rd ys j) = false := by simp [he]
          have He := Aside0.mk he
          clear he
          go_wp2
          go_quiet (fail)
          go_wp2
          go_roundw
          case rel => exact ⟨j + 1, d + nq, by omega, by go_num, ⟨fun i hi => by rcases Nat.lt_or_ge i j with h | h; exact HF.out i h; rw [show i = j by omega]; exact He.out⟩, by simp [World.drewN_drewN]⟩
          case measure => simp [intOf]; omega
        · have hq1 : (rd xs j != rd ys j) = true := by simp [he]
          clear he
          go_wp2
          go_quiet (fail)
          go_wp2
          go_ret
          exact ⟨rfl, _, World.drewN_drewN ..⟩
      · exact absurd (eqn_of_rd HL.out (fun i hi => HF.out i (by omega))) HN.out
  · have hq : ((xs.length : Int) != (ys.length : Int)) = true := by simp; omega
    clear hlen
    go_enter Tryd.func87, Tryd.ntmps87
    go_wp2
    go_ret
    exact ⟨rfl, 0, rfl⟩
end Go.Proofs.YtgffgmfjoepjoaaDoor.M
