/- Two pairs that refuse an interval order: the program's twoTwo. -/
import Derived.Test.YtgffgmfjoepjoaaDoorOA
set_option linter.unusedVariables false
set_option linter.unusedSimpArgs false
namespace Go.Proofs.YtgffgmfjoepjoaaDoor.M
open Go.RowKit Go.Proofs.YtgffgmfjoepjoaaDoorW.PrintWords
def ttB (l : List Int) (a b c d : Nat) : Bool := bet l a b && (bet l c d && (!bet l c b && !bet l a d))
def ttAt (l : List Int) (a b c d : Nat) : Option (List Int) := if ttB l a b c d then some [(a : Int), (b : Int), (c : Int), (d : Int)] else none
def ttC (l : List Int) (a b c : Nat) : Option (List Int) := scan (ttAt l a b c) l.length 0
def ttD (l : List Int) (a b : Nat) : Option (List Int) := scan (ttC l a b) l.length 0
def ttE (l : List Int) (a : Nat) : Option (List Int) := scan (ttD l a) l.length 0
def ttF (l : List Int) : Option (List Int) := scan (ttE l) l.length 0
theorem OptI_lit4 {W : World} {base : Nat} {a b c d : Int} {o : Option (List Int)} (hb : base ≤ W.heap.size) (h : o = some [a, b, c, d]) : OptI (W.alloc (.cells #[.int .i64 a, .int .i64 b, .int .i64 c, .int .i64 d] 3)) base (.slice (some ⟨W.heap.size, 0, none⟩) 4 4) o := by
  subst h
  exact ⟨OI_lit W base [a, b, c, d] hb (by simp), _, _, _, rfl⟩
theorem upto_next {f : Nat → Option (List Int)} {q : Nat} (h : ∀ i, i < q → f i = none) (h1 : f q = none) : ∀ i, i < q + 1 → f i = none := fun i hi => by
  rcases Nat.lt_or_ge i q with h2 | h2
  · exact h i h2
  · rw [show i = q by omega]; exact h1
set_option maxHeartbeats 3200000 in
set_option maxRecDepth 100000 in
theorem twoTwo_c (l : List Int) (hv : VO l) (A : Option Addr) (k : Nat) (w : World) (hr : I.C w A l.length l) :
    Calls Tryd.prog 163 #[.agg #[.int .i64 (l.length : Int), .slice A l.length k]] w fun e w' => ∃ v, e = .returned v ∧ OptI w' w.heap.size v (ttF l) ∧ Below w.heap.size w w' := by
  have HV := Aside0.mk hv
  have h10 := hv.l10
  have hB := Aside0.mk (below_alloc (Below.refl w.heap.size w) (.cells #[.int .i64 (l.length : Int), .slice A l.length k] 34))
  have hX := Aside0.mk (blk_new w (.cells #[.int .i64 (l.length : Int), .slice A l.length k] 34))
  have HR := Aside0.mk hr
  clear hr hv
  go_enter Tryd.func163, Tryd.ntmps163
  go_wp2
  go_loopw [9] (fun i wr => ∃ a : Nat, a ≤ l.length ∧ i = .int .i64 a ∧ Aside0 (∀ i, i < a → ttE l i = none) ∧ Aside0 (Below w.heap.size w wr) ∧ Aside0 (wr.heap[w.heap.size]? = some (.cells #[.int .i64 (l.length : Int), .slice A l.length k] 34 (0, 0)))) (fun i _ => l.length - (intOf i).toNat)
  case atStart => exact ⟨0, Nat.zero_le _, rfl, ⟨fun i hi => by omega⟩, hB, hX⟩
  case round =>
    clear hB hX
    obtain ⟨a, ha, rfl, HAA, HB, HX⟩ := hrel
    obtain ⟨hx0, hx1⟩ := box2 HX.out
    by_cases la : a < l.length
    · skip
      go_wp2
      go_loopw [14] (fun i wr => ∃ b : Nat, b ≤ l.length ∧ i = .int .i64 b ∧ Aside0 (∀ i, i < b → ttD l a i = none) ∧ Aside0 (Below w.heap.size w wr) ∧ Aside0 (wr.heap[w.heap.size]? = some (.cells #[.int .i64 (l.length : Int), .slice A l.length k] 34 (0, 0)))) (fun i _ => l.length - (intOf i).toNat)
      case atStart => exact ⟨0, Nat.zero_le _, rfl, ⟨fun i hi => by omega⟩, HB, HX⟩
      case round =>
        clear HB HX hx0 hx1
        obtain ⟨b, hb, rfl, HBB, HB, HX⟩ := hrel
        obtain ⟨hx0, hx1⟩ := box2 HX.out
        by_cases lb : b < l.length
        · skip
          go_wp2
          go_loopw [19] (fun i wr => ∃ c : Nat, c ≤ l.length ∧ i = .int .i64 c ∧ Aside0 (∀ i, i < c → ttC l a b i = none) ∧ Aside0 (Below w.heap.size w wr) ∧ Aside0 (wr.heap[w.heap.size]? = some (.cells #[.int .i64 (l.length : Int), .slice A l.length k] 34 (0, 0)))) (fun i _ => l.length - (intOf i).toNat)
          case atStart => exact ⟨0, Nat.zero_le _, rfl, ⟨fun i hi => by omega⟩, HB, HX⟩
          case round =>
            clear HB HX hx0 hx1
            obtain ⟨c, hc, rfl, HCC, HB, HX⟩ := hrel
            obtain ⟨hx0, hx1⟩ := box2 HX.out
            by_cases lc : c < l.length
            · skip
              go_wp2
              go_loopw [24] (fun i wr => ∃ d : Nat, d ≤ l.length ∧ i = .int .i64 d ∧ Aside0 (∀ i, i < d → ttAt l a b c i = none) ∧ Aside0 (Below w.heap.size w wr) ∧ Aside0 (wr.heap[w.heap.size]? = some (.cells #[.int .i64 (l.length : Int), .slice A l.length k] 34 (0, 0)))) (fun i _ => l.length - (intOf i).toNat)
              case atStart => exact ⟨0, Nat.zero_le _, rfl, ⟨fun i hi => by omega⟩, HB, HX⟩
              case round =>
                clear HB HX hx0 hx1
                obtain ⟨d, hd, rfl, HDD, HB, HX⟩ := hrel
                obtain ⟨hx0, hx1⟩ := box2 HX.out
                by_cases ld : d < l.length
                · have HRw := Aside0.mk (Kd.C_below HR.out HB.out)
                  cases e0 : bet l a b
                  · skip
                    have Hn : Aside0 (ttAt l a b c d = none) := ⟨by rw [ttAt, ttB, e0]; simp⟩
                    have E0 := Aside0.mk e0
                    clear e0
                    go_wp2_with fail
                    refine (better_b HV.out (i := (a : Int)) (j := (b : Int)) E0.out A k _ HRw.out (by omega) (by omega) (by omega) (by omega)).mono ?_
                    rintro e w1 ⟨rfl, hb1⟩
                    have HB1 := Aside0.mk (below_step HB.out hb1)
                    have HX1 := Aside0.mk (blk_below HX.out hb1)
                    clear hb1 hx0 hx1
                    obtain ⟨hx0, hx1⟩ := box2 HX1.out
                    go_wp2
                    go_roundw
                    case rel => exact ⟨d + 1, by omega, by go_num, ⟨upto_next HDD.out Hn.out⟩, HB1, HX1⟩
                    case measure => simp [intOf]; omega
                  · skip
                    cases e1 : bet l c d
                    · skip
                      have Hn : Aside0 (ttAt l a b c d = none) := ⟨by rw [ttAt, ttB, e0, e1]; simp⟩
                      have E0 := Aside0.mk e0
                      have E1 := Aside0.mk e1
                      clear e0 e1
                      go_wp2_with fail
                      refine (better_b HV.out (i := (a : Int)) (j := (b : Int)) E0.out A k _ HRw.out (by omega) (by omega) (by omega) (by omega)).mono ?_
                      rintro e w1 ⟨rfl, hb1⟩
                      have HB1 := Aside0.mk (below_step HB.out hb1)
                      have HX1 := Aside0.mk (blk_below HX.out hb1)
                      clear hb1 hx0 hx1
                      obtain ⟨hx0, hx1⟩ := box2 HX1.out
                      go_wp2_with fail
                      refine (better_b HV.out (i := (c : Int)) (j := (d : Int)) E1.out A k _ (Kd.C_below HR.out HB1.out) (by omega) (by omega) (by omega) (by omega)).mono ?_
                      rintro e w2 ⟨rfl, hb2⟩
                      have HB2 := Aside0.mk (below_step HB1.out hb2)
                      have HX2 := Aside0.mk (blk_below HX1.out hb2)
                      clear hb2 hx0 hx1
                      obtain ⟨hx0, hx1⟩ := box2 HX2.out
                      go_wp2
                      go_roundw
                      case rel => exact ⟨d + 1, by omega, by go_num, ⟨upto_next HDD.out Hn.out⟩, HB2, HX2⟩
                      case measure => simp [intOf]; omega
                    · skip
                      cases e2 : bet l c b
                      · skip
                        cases e3 : bet l a d
                        · skip
                          have Hf : Aside0 (ttF l = some [(a : Int), (b : Int), (c : Int), (d : Int)]) := ⟨scan_some _ _ a (fun i _ h => HAA.out i h) (Nat.zero_le _) (by omega) (scan_some _ _ b (fun i _ h => HBB.out i h) (Nat.zero_le _) (by omega) (scan_some _ _ c (fun i _ h => HCC.out i h) (Nat.zero_le _) (by omega) (scan_some _ _ d (fun i _ h => HDD.out i h) (Nat.zero_le _) (by omega) (by rw [ttAt, ttB, e0, e1, e2, e3]; rfl))))⟩
                          have E0 := Aside0.mk e0
                          have E1 := Aside0.mk e1
                          have E2 := Aside0.mk e2
                          have E3 := Aside0.mk e3
                          clear e0 e1 e2 e3
                          go_wp2_with fail
                          refine (better_b HV.out (i := (a : Int)) (j := (b : Int)) E0.out A k _ HRw.out (by omega) (by omega) (by omega) (by omega)).mono ?_
                          rintro e w1 ⟨rfl, hb1⟩
                          have HB1 := Aside0.mk (below_step HB.out hb1)
                          have HX1 := Aside0.mk (blk_below HX.out hb1)
                          clear hb1 hx0 hx1
                          obtain ⟨hx0, hx1⟩ := box2 HX1.out
                          go_wp2_with fail
                          refine (better_b HV.out (i := (c : Int)) (j := (d : Int)) E1.out A k _ (Kd.C_below HR.out HB1.out) (by omega) (by omega) (by omega) (by omega)).mono ?_
                          rintro e w2 ⟨rfl, hb2⟩
                          have HB2 := Aside0.mk (below_step HB1.out hb2)
                          have HX2 := Aside0.mk (blk_below HX1.out hb2)
                          clear hb2 hx0 hx1
                          obtain ⟨hx0, hx1⟩ := box2 HX2.out
                          go_wp2_with fail
                          refine (better_b HV.out (i := (c : Int)) (j := (b : Int)) E2.out A k _ (Kd.C_below HR.out HB2.out) (by omega) (by omega) (by omega) (by omega)).mono ?_
                          rintro e w3 ⟨rfl, hb3⟩
                          have HB3 := Aside0.mk (below_step HB2.out hb3)
                          have HX3 := Aside0.mk (blk_below HX2.out hb3)
                          clear hb3 hx0 hx1
                          obtain ⟨hx0, hx1⟩ := box2 HX3.out
                          go_wp2_with fail
                          refine (better_b HV.out (i := (a : Int)) (j := (d : Int)) E3.out A k _ (Kd.C_below HR.out HB3.out) (by omega) (by omega) (by omega) (by omega)).mono ?_
                          rintro e w4 ⟨rfl, hb4⟩
                          have HB4 := Aside0.mk (below_step HB3.out hb4)
                          have HX4 := Aside0.mk (blk_below HX3.out hb4)
                          clear hb4 hx0 hx1
                          obtain ⟨hx0, hx1⟩ := box2 HX4.out
                          go_wp2
                          go_ret
                          exact ⟨_, rfl, OptI_lit4 HB4.out.size Hf.out, below_alloc HB4.out _⟩
                        · skip
                          have Hn : Aside0 (ttAt l a b c d = none) := ⟨by rw [ttAt, ttB, e0, e1, e2, e3]; simp⟩
                          have E0 := Aside0.mk e0
                          have E1 := Aside0.mk e1
                          have E2 := Aside0.mk e2
                          have E3 := Aside0.mk e3
                          clear e0 e1 e2 e3
                          go_wp2_with fail
                          refine (better_b HV.out (i := (a : Int)) (j := (b : Int)) E0.out A k _ HRw.out (by omega) (by omega) (by omega) (by omega)).mono ?_
                          rintro e w1 ⟨rfl, hb1⟩
                          have HB1 := Aside0.mk (below_step HB.out hb1)
                          have HX1 := Aside0.mk (blk_below HX.out hb1)
                          clear hb1 hx0 hx1
                          obtain ⟨hx0, hx1⟩ := box2 HX1.out
                          go_wp2_with fail
                          refine (better_b HV.out (i := (c : Int)) (j := (d : Int)) E1.out A k _ (Kd.C_below HR.out HB1.out) (by omega) (by omega) (by omega) (by omega)).mono ?_
                          rintro e w2 ⟨rfl, hb2⟩
                          have HB2 := Aside0.mk (below_step HB1.out hb2)
                          have HX2 := Aside0.mk (blk_below HX1.out hb2)
                          clear hb2 hx0 hx1
                          obtain ⟨hx0, hx1⟩ := box2 HX2.out
                          go_wp2_with fail
                          refine (better_b HV.out (i := (c : Int)) (j := (b : Int)) E2.out A k _ (Kd.C_below HR.out HB2.out) (by omega) (by omega) (by omega) (by omega)).mono ?_
                          rintro e w3 ⟨rfl, hb3⟩
                          have HB3 := Aside0.mk (below_step HB2.out hb3)
                          have HX3 := Aside0.mk (blk_below HX2.out hb3)
                          clear hb3 hx0 hx1
                          obtain ⟨hx0, hx1⟩ := box2 HX3.out
                          go_wp2_with fail
                          refine (better_b HV.out (i := (a : Int)) (j := (d : Int)) E3.out A k _ (Kd.C_below HR.out HB3.out) (by omega) (by omega) (by omega) (by omega)).mono ?_
                          rintro e w4 ⟨rfl, hb4⟩
                          have HB4 := Aside0.mk (below_step HB3.out hb4)
                          have HX4 := Aside0.mk (blk_below HX3.out hb4)
                          clear hb4 hx0 hx1
                          obtain ⟨hx0, hx1⟩ := box2 HX4.out
                          go_wp2
                          go_roundw
                          case rel => exact ⟨d + 1, by omega, by go_num, ⟨upto_next HDD.out Hn.out⟩, HB4, HX4⟩
                          case measure => simp [intOf]; omega
                      · skip
                        have Hn : Aside0 (ttAt l a b c d = none) := ⟨by rw [ttAt, ttB, e0, e1, e2]; simp⟩
                        have E0 := Aside0.mk e0
                        have E1 := Aside0.mk e1
                        have E2 := Aside0.mk e2
                        clear e0 e1 e2
                        go_wp2_with fail
                        refine (better_b HV.out (i := (a : Int)) (j := (b : Int)) E0.out A k _ HRw.out (by omega) (by omega) (by omega) (by omega)).mono ?_
                        rintro e w1 ⟨rfl, hb1⟩
                        have HB1 := Aside0.mk (below_step HB.out hb1)
                        have HX1 := Aside0.mk (blk_below HX.out hb1)
                        clear hb1 hx0 hx1
                        obtain ⟨hx0, hx1⟩ := box2 HX1.out
                        go_wp2_with fail
                        refine (better_b HV.out (i := (c : Int)) (j := (d : Int)) E1.out A k _ (Kd.C_below HR.out HB1.out) (by omega) (by omega) (by omega) (by omega)).mono ?_
                        rintro e w2 ⟨rfl, hb2⟩
                        have HB2 := Aside0.mk (below_step HB1.out hb2)
                        have HX2 := Aside0.mk (blk_below HX1.out hb2)
                        clear hb2 hx0 hx1
                        obtain ⟨hx0, hx1⟩ := box2 HX2.out
                        go_wp2_with fail
                        refine (better_b HV.out (i := (c : Int)) (j := (b : Int)) E2.out A k _ (Kd.C_below HR.out HB2.out) (by omega) (by omega) (by omega) (by omega)).mono ?_
                        rintro e w3 ⟨rfl, hb3⟩
                        have HB3 := Aside0.mk (below_step HB2.out hb3)
                        have HX3 := Aside0.mk (blk_below HX2.out hb3)
                        clear hb3 hx0 hx1
                        obtain ⟨hx0, hx1⟩ := box2 HX3.out
                        go_wp2
                        go_roundw
                        case rel => exact ⟨d + 1, by omega, by go_num, ⟨upto_next HDD.out Hn.out⟩, HB3, HX3⟩
                        case measure => simp [intOf]; omega
                · have Hn : Aside0 (ttC l a b c = none) := ⟨scan_none _ _ (fun i _ h => HDD.out i (by omega))⟩
                  go_wp2
                  go_roundw
                  case rel => exact ⟨c + 1, by omega, by go_num, ⟨upto_next HCC.out Hn.out⟩, HB, HX⟩
                  case measure => simp [intOf]; omega
            · have Hn : Aside0 (ttD l a b = none) := ⟨scan_none _ _ (fun i _ h => HCC.out i (by omega))⟩
              go_wp2
              go_roundw
              case rel => exact ⟨b + 1, by omega, by go_num, ⟨upto_next HBB.out Hn.out⟩, HB, HX⟩
              case measure => simp [intOf]; omega
        · have Hn : Aside0 (ttE l a = none) := ⟨scan_none _ _ (fun i _ h => HBB.out i (by omega))⟩
          go_wp2
          go_roundw
          case rel => exact ⟨a + 1, by omega, by go_num, ⟨upto_next HAA.out Hn.out⟩, HB, HX⟩
          case measure => simp [intOf]; omega
    · have Hf : Aside0 (ttF l = none) := ⟨scan_none _ _ (fun i _ h => HAA.out i (by omega))⟩
      go_wp2
      go_ret
      exact ⟨_, rfl, OptI_nil _ _ Hf.out, HB.out⟩
end Go.Proofs.YtgffgmfjoepjoaaDoor.M
