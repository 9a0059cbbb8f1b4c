/- The law FnExactMeetOfBiorders: its walk. -/
import Derived.Test.YtgddmgcneefeeaaM3
import Derived.Test.YtgddmgcneefeeaaL6
set_option linter.unusedVariables false
set_option linter.unusedSimpArgs false
namespace Go.Proofs.Ytgddmgcneefeeaa.M
open Go.RowKit Go.Proofs.YtgddmgcneefeeaaW.PrintWords
theorem mkN_meet (n : Nat) (m o : List Int) : ∀ g, mkN (meetTo n m o g) ≤ g * (2 + m.length)
  | 0 => by simp [meetTo, mkN]
  | g + 1 => by
    rw [meetTo_succ, mkN_snoc, Nat.succ_mul]
    have := mkN_meet n m o g
    have h : (meetT n m o g).2.2.length = m.length := cov_len _ _
    omega
theorem meetL_small (r c : Int) (m : List Int) : mkN (meetL r c m) ≤ 1000 ∧ (meetL r c m).length ≤ 4 := by
  rcases lst_cases r c m with hl | ⟨n, g, o, rfl, rfl, hv, hl, hg1, hg4, hso, hpos⟩
  · rw [meetL_no hl]; simp [mkN]
  · rw [meetL_yes hl hso, meetTo_len]
    have := mkN_meet n m o g
    have h6 := hv.l6
    have : g * (2 + m.length) ≤ 4 * 8 := Nat.mul_le_mul hg4 (by omega)
    omega
theorem box33 {w' : World} {a b c d e f : Value} {g g1 t t1 : Nat} (h : w'.heap[g]? = some (.cells #[a, b, c] t (0, 0))) (h1 : w'.heap[g1]? = some (.cells #[d, e, f] t1 (0, 0))) :
    w'.cell? ⟨g, 0, none⟩ = some a ∧ w'.cell? ⟨g, 1, none⟩ = some b ∧ w'.cell? ⟨g, 2, none⟩ = some c ∧ w'.cell? ⟨g1, 0, none⟩ = some d ∧ w'.cell? ⟨g1, 1, none⟩ = some e ∧ w'.cell? ⟨g1, 2, none⟩ = some f := ⟨(box3 h).1, (box3 h).2.1, (box3 h).2.2, (box3 h1).1, (box3 h1).2.1, (box3 h1).2.2⟩
theorem szTable_b {n : Nat} {a r : Int} (h : szI n a = r) (r0 c0 : Int) (A : Option Addr) (c : Nat) (w : World) (h0 : 0 ≤ a) (h1 : a ≤ 1000000000) (hl : n ≤ 9223372036854775807) :
    Calls Try.prog 7 #[.agg #[.int .i64 r0, .int .i64 c0, .slice A n c], .int .i64 a] w fun e w' => e = .returned (.int .i64 r) ∧ Below w.heap.size w w' := by
  subst h; exact szTable_c r0 c0 n A c a w h0 h1 hl
theorem ST_C {w : World} {b : Nat} {A : Option Addr} {n c : Nat} {ts : List Tab} (h : ST w b (.slice A n c) ts) : Kd.C kT w A n ts := by
  have := Kd.S_reads' h
  rw [this.1] at *
  exact this.2.2
set_option maxHeartbeats 1600000 in
set_option maxRecDepth 100000 in
theorem law_meet (r c : Int) (m : List Int) (A : Option Addr) (k : Nat) (w : World) (hr : I.C w A m.length m) :
    Calls Try.prog 3 #[.agg #[.int .i64 r, .int .i64 c, .slice A m.length k]] w fun e w' => e = .returned (.bool true) ∧ Below w.heap.size w w' := by
  have HR := Aside0.mk hr
  have hmax := hr.2.1
  have hX := Aside0.mk (blk_new w (.cells #[.int .i64 r, .int .i64 c, .slice A m.length k] 24))
  have hB := Aside0.mk (below_alloc (Below.refl w.heap.size w) (.cells #[.int .i64 r, .int .i64 c, .slice A m.length k] 24))
  clear hr
  by_cases hs : (1048576 : Int) - m.length < 0
  · have hz : Aside0 (szI m.length 1048576 = -1) := ⟨by rw [szI, if_pos hs]⟩
    clear hs
    go_enter Try.func3, Try.ntmps3
    go_wp2_with fail
    refine (szTable_b hz.out r c A k _ (by omega) (by omega) hmax).mono ?_
    rintro e w1 ⟨rfl, hb⟩
    go_wp2
    go_ret
    exact ⟨rfl, below_step hB.out hb⟩
  · have hz : Aside0 (szI m.length 1048576 = 1048576 - m.length) := ⟨by rw [szI, if_neg hs]⟩
    obtain ⟨z, hz1, hz0⟩ : ∃ z : Int, Aside0 (szI m.length 1048576 = z) ∧ 0 ≤ z := ⟨_, hz, by omega⟩
    have hml : m.length ≤ 1000000000 := by omega
    have hzn : decide (z < 0) = false := by simp; omega
    clear hs hz
    go_enter Try.func3, Try.ntmps3
    go_wp2_with fail
    refine (szTable_b hz1.out r c A k _ (by omega) (by omega) hmax).mono ?_
    rintro e w1 ⟨rfl, hb⟩
    have HB1 := Aside0.mk (below_step hB.out hb)
    have HX1 := Aside0.mk (blk_below hX.out hb)
    obtain ⟨hx0, hx1, hx2⟩ := box3 HX1.out
    clear hb hB hX
    go_wp2_with fail
    refine (toTable_c r c m A k _ (Kd.C_below HR.out HB1.out) hml).mono ?_
    rintro e w2 ⟨v2, rfl, ho2, hb2⟩
    obtain ⟨A2, c2, rfl, hc2, _⟩ := OI_shape ho2
    have HO2 := Aside0.mk (OI_C ho2)
    have HB2 := Aside0.mk (below_step HB1.out hb2)
    have HX2 := Aside0.mk (blk_below HX1.out hb2)
    clear hb2 ho2 hx0 hx1 hx2 HB1 HX1
    obtain ⟨b, hbe, HBE⟩ : ∃ b, decide (0 < lst r c m) = b ∧ Aside0 (decide (0 < lst r c m) = b) := ⟨_, rfl, ⟨rfl⟩⟩
    obtain ⟨L, hL, HL⟩ : ∃ L, meetL r c m = L ∧ Aside0 (mkN L ≤ 1000 ∧ L.length ≤ 4) := ⟨_, rfl, ⟨meetL_small r c m⟩⟩
    have HSM : Aside0 (∀ (A : Option Addr) (k : Nat) (hk : m.length ≤ k) (w : World) (hr : I.C w A m.length m), Calls Try.prog 8 #[.agg #[.int .i64 r, .int .i64 c, .slice A m.length k]] w fun e w' => ∃ v, e = .returned (.tuple #[v, .bool b]) ∧ ST w' w.heap.size v L ∧ Below w.heap.size w w') := ⟨by
      intro A k hk w hr; have := specMeet_c r c m A k hk w hr; rwa [hbe, hL] at this⟩
    have HIM : Aside0 (∀ (A : Option Addr) (k : Nat) (hk : m.length ≤ k) (w : World) (hr : I.C w A m.length m), Calls Try.prog 10 #[.agg #[.int .i64 r, .int .i64 c, .slice A m.length k]] w fun e w' => ∃ v, e = .returned (.tuple #[v, .bool b]) ∧ ST w' w.heap.size v L ∧ Below w.heap.size w w') := ⟨by
      intro A k hk w hr; have := implMeet_c r c m A k hk w hr; rwa [hbe, hL] at this⟩
    clear hbe hL
    go_wp2_with fail
    refine (HSM.out A2 c2 hc2 _ HO2.out).mono ?_
    rintro e w3 ⟨v3, rfl, ho3, hb3⟩
    obtain ⟨A3, c3, rfl, _⟩ := Kd.S_reads ho3
    have HO3 := Aside0.mk (ST_C ho3)
    have HB3 := Aside0.mk (below_step HB2.out hb3)
    have HX3 := Aside0.mk (blk_below HX2.out hb3)
    clear hb3 ho3 HB2 HX2 HO2
    obtain ⟨hx0, hx1, hx2⟩ := box3 HX3.out
    go_wp2_with fail
    refine (toTable_c r c m A k _ (Kd.C_below HR.out HB3.out) hml).mono ?_
    rintro e w4 ⟨v4, rfl, ho4, hb4⟩
    obtain ⟨A4, c4, rfl, hc4, _⟩ := OI_shape ho4
    have HO4 := Aside0.mk ho4
    have HB4 := Aside0.mk hb4
    have HX4 := Aside0.mk (blk_below HX3.out hb4)
    clear hb4 ho4 hx0 hx1 hx2
    obtain ⟨W5, hW5⟩ : ∃ W5, W5 = w4.alloc (.cells #[.int .i64 r, .int .i64 c, .slice A4 m.length c4] 29) := ⟨_, rfl⟩
    have HB5 : Aside0 (Below w3.heap.size w3 W5) := ⟨by rw [hW5]; exact below_alloc HB4.out _⟩
    have HO5 : Aside0 (OI W5 w3.heap.size (.slice A4 m.length c4) m) := ⟨by rw [hW5]; exact Kd.R_alloc HO4.out _⟩
    have HX5 : Aside0 (W5.heap[w.heap.size]? = some (.cells #[.int .i64 r, .int .i64 c, .slice A m.length k] 24 (0, 0))) := ⟨by rw [hW5]; exact blk_alloc HX4.out _⟩
    have HY5 : Aside0 (W5.heap[w4.heap.size]? = some (.cells #[.int .i64 r, .int .i64 c, .slice A4 m.length c4] 29 (0, 0))) := ⟨by rw [hW5]; exact blk_new _ _⟩
    have hbb : (b != b) = false := by simp
    have hkn : decide (1 + (m.length : Int) < 0) = false := by simp; omega
    have hqn : decide (1 + (mkN L : Int) < 0) = false := by simp; omega
    go_wp2_with fail
    rw [← hW5]
    obtain ⟨g5, hg5⟩ : ∃ g5, g5 = w4.heap.size := ⟨_, rfl⟩
    rw [← hg5] at HY5 ⊢
    clear hg5
    refine (HIM.out A4 c4 hc4 _ (OI_C HO5.out)).mono ?_
    rintro e w6 ⟨v6, rfl, ho6, hb6⟩
    obtain ⟨A6, c6, rfl, _⟩ := Kd.S_reads ho6
    have HS6 := Aside0.mk ho6
    have HB6 := Aside0.mk (below_step HB5.out hb6)
    have HX6 := Aside0.mk (blk_below HX5.out hb6)
    have HY6 := Aside0.mk (blk_below HY5.out hb6)
    have HO6 := Aside0.mk (Kd.R_below HO5.out hb6)
    clear hb6 ho6
    go_wp2_with fail
    refine (eqTableS_c L A6 A3 c6 c3 _ (ST_C HS6.out) (Kd.C_below HO3.out HB6.out) (by have := HL.out.2; omega)).mono ?_
    rintro e w7 ⟨rfl, hb7⟩
    have HS7 := Aside0.mk (Kd.S_below HS6.out hb7)
    have HB7 := Aside0.mk (below_step HB6.out hb7)
    have HX7 := Aside0.mk (blk_below HX6.out hb7)
    have HY7 := Aside0.mk (blk_below HY6.out hb7)
    have HO7 := Aside0.mk (Kd.R_below HO6.out hb7)
    clear hb7 HS6 HB6 HX6 HY6 HO6 HX5 HY5
    obtain ⟨hx0, hx1, hx2⟩ := box3 HX7.out
    obtain ⟨hy0, hy1, hy2⟩ := box3 HY7.out
    have HW7 := Aside0.mk (below_step HB3.out HB7.out)
    go_wp2
    go_region_held3 (fun w' => w'.cell? ⟨w.heap.size, 0, none⟩ = some (.int .i64 r) ∧ w'.cell? ⟨w.heap.size, 1, none⟩ = some (.int .i64 c) ∧ w'.cell? ⟨w.heap.size, 2, none⟩ = some (.slice A m.length k) ∧ w'.cell? ⟨g5, 0, none⟩ = some (.int .i64 r) ∧ w'.cell? ⟨g5, 1, none⟩ = some (.int .i64 c) ∧ w'.cell? ⟨g5, 2, none⟩ = some (.slice A4 m.length c4)) (first | exact ⟨hx0, hx1, hx2, hy0, hy1, hy2⟩ | exact box33 (blk_below HX8.out HB9.out) (blk_below HY8.out HB9.out) | exact box33 HX8.out HY8.out)
      (first | (go_at_call 9; with_reducible refine (toTable_c r c m A k _ (Kd.C_below HR.out (below_drew1 HW7.out)) hml).mono ?_; rintro e w8 ⟨v8, rfl, ho8, hb8⟩; obtain ⟨A8, c8, rfl, hc8, _⟩ := OI_shape ho8; have HO8 := Aside0.mk (OI_C ho8); have HB8 := Aside0.mk hb8; have HX8 := Aside0.mk (blk_below (blk_drew HX7.out) hb8); have HY8 := Aside0.mk (blk_below (blk_drew HY7.out) hb8); clear ho8 hb8) | (go_at_call 12; with_reducible refine (eqTable_yes (r, c, m) A4 A8 c4 c8 _ (Kd.C_below (Kd.C_drew (OI_C HO7.out)) HB8.out) HO8.out).mono ?_; rintro e w9 ⟨rfl, hb9⟩; have HB9 := Aside0.mk hb9; clear hb9))
    have HS9 := Aside0.mk (Kd.S_below (Kd.S_below (Kd.S_drew HS7.out) HB8.out) HB9.out)
    have HB10 := Aside0.mk (below_step (below_step (below_drew1 HB7.out) HB8.out) HB9.out)
    have HX9 := Aside0.mk (blk_below HX8.out HB9.out)
    have HY9 := Aside0.mk (blk_below HY8.out HB9.out)
    have HO9 := Aside0.mk (Kd.R_below (Kd.R_below (Kd.R_drew HO7.out) HB8.out) HB9.out)
    clear HS7 HB7 HX7 HY7 HO7 HX8 HY8 HB8 HB9 HO8 hx0 hx1 hx2 hy0 hy1 hy2 HW7
    obtain ⟨hy0, hy1, hy2⟩ := box3 HY9.out
    go_wp2_with fail
    refine (markTable_c r c m _ 1 w3 _ HO9.out HB10.out (by omega) (by omega) hml).mono ?_
    rintro e w10 ⟨rfl, ho10, hb10, hk10⟩
    have HS10 : Aside0 (ST w10 w3.heap.size (.slice A6 L.length c6) L) := ⟨by
      refine Kd.S_mono (Kd.S_lower (Kd.S_grown (Kd.S_bound HS9.out) hk10 (fun q hq e => ?_)) HB5.out.size) (fun _ _ => trivial)
      have h1 := Kd.R_lt HO5.out q e.symm
      omega⟩
    have HB11 := Aside0.mk hb10
    have hX10 : w10.heap[w.heap.size]? = some (.cells #[.int .i64 r, .int .i64 c, .slice A m.length k] 24 (0, 0)) := blk_below HX3.out hb10
    have HX10 := Aside0.mk hX10
    clear ho10 hb10 hk10 hX10 HS9 HB10 HX9 HY9 HO9 hy0 hy1 hy2 HB5
    go_wp2_with fail
    refine (eqTableS_c L A6 A3 c6 c3 _ (ST_C HS10.out) (Kd.C_below HO3.out HB11.out) (by have := HL.out.2; omega)).mono ?_
    rintro e w11 ⟨rfl, hb11⟩
    have HS11 := Aside0.mk (Kd.S_below HS10.out hb11)
    have HB12 := Aside0.mk (below_step HB11.out hb11)
    clear HS10 HB11 HX10 hb11
    go_wp2_with fail
    refine (markTableS_c L _ 1 w3 _ HS11.out HB12.out (by omega) (by have := HL.out.1; omega)).mono ?_
    rintro e w12 ⟨rfl, ho12, hb12⟩
    have HC12 := Aside0.mk (ST_C ho12)
    have HB13 := Aside0.mk hb12
    clear ho12 hb12 HS11 HB12
    go_wp2_with fail
    refine (heldTableS_c L A6 c6 1 _ HC12.out (by omega) (by have := HL.out.1; omega) (by have := HL.out.2; omega)).mono ?_
    rintro e w13 ⟨rfl, rfl⟩
    have HX13 := Aside0.mk (blk_below HX3.out HB13.out)
    have HW13 := Aside0.mk (below_step HB3.out HB13.out)
    obtain ⟨hx0, hx1, hx2⟩ := box3 HX13.out
    go_wp2_with fail
    refine (toTable_c r c m A k _ (Kd.C_below HR.out HW13.out) hml).mono ?_
    rintro e w14 ⟨v14, rfl, ho14, hb14⟩
    obtain ⟨A14, c14, rfl, hc14, _⟩ := OI_shape ho14
    have HO14 := Aside0.mk (OI_C ho14)
    have HB14 := Aside0.mk (below_step HB13.out hb14)
    have HC14 := Aside0.mk (Kd.C_below HC12.out hb14)
    clear ho14 hb14 hx0 hx1 hx2 HX13 HW13 HC12 HB13
    go_wp2_with fail
    refine (HIM.out A14 c14 hc14 _ HO14.out).mono ?_
    rintro e w15 ⟨v15, rfl, ho15, hb15⟩
    obtain ⟨A15, c15, rfl, _⟩ := Kd.S_reads ho15
    have HO15 := Aside0.mk (ST_C ho15)
    have HB15 := Aside0.mk (below_step HB14.out hb15)
    have HC15 := Aside0.mk (Kd.C_below HC14.out hb15)
    clear ho15 hb15 HB14 HC14 HO14
    go_wp2_with fail
    refine (eqTableS_c L A15 A3 c15 c3 _ HO15.out (Kd.C_below HO3.out HB15.out) (by have := HL.out.2; omega)).mono ?_
    rintro e w16 ⟨rfl, hb16⟩
    have HB16 := Aside0.mk (below_step HB15.out hb16)
    have HC16 := Aside0.mk (Kd.C_below HC15.out hb16)
    clear hb16 HB15 HC15
    go_wp2_with fail
    refine (heldTableS_c L A6 c6 1 _ HC16.out (by omega) (by have := HL.out.1; omega) (by have := HL.out.2; omega)).mono ?_
    rintro e w17 ⟨rfl, rfl⟩
    go_wp2
    go_ret
    exact ⟨rfl, below_step HB3.out HB16.out⟩
end Go.Proofs.Ytgddmgcneefeeaa.M
