/- The meet of biorders: the reading's function. -/
import Derived.Test.YtgddmgcneefeeaaM2
set_option linter.unusedVariables false
set_option linter.unusedSimpArgs false
namespace Go.Proofs.Ytgddmgcneefeeaa.M
open Go.RowKit Go.Proofs.YtgddmgcneefeeaaW.PrintWords
theorem specLeast_y {n g : Nat} {m : List Int} (h : lst m.length n m = g) (h1 : 1 ≤ g) (A : Option Addr) (k : Nat) (hk : m.length ≤ k) (w : World) (hr : I.C w A m.length m) :
    Calls Try.prog 19 #[.agg #[.int .i64 (m.length : Int), .int .i64 (n : Int), .slice A m.length k]] w fun e w' => e = .returned (.tuple #[.int .i64 (g : Int), .bool true]) ∧ Below w.heap.size w w' := by
  refine (specLeast_c _ _ m A k hk w hr).mono ?_
  rintro e w' ⟨rfl, hb⟩
  exact ⟨by rw [h, show decide (0 < (g : Int)) = true by simp; omega], hb⟩
theorem specLeast_n {r c : Int} {m : List Int} (h : lst r c m = 0) (A : Option Addr) (k : Nat) (hk : m.length ≤ k) (w : World) (hr : I.C w A m.length m) :
    Calls Try.prog 19 #[.agg #[.int .i64 r, .int .i64 c, .slice A m.length k]] w fun e w' => e = .returned (.tuple #[.int .i64 0, .bool false]) ∧ Below w.heap.size w w' := by
  refine (specLeast_c _ _ m A k hk w hr).mono ?_
  rintro e w' ⟨rfl, hb⟩
  exact ⟨by rw [h]; rfl, hb⟩
theorem fePart_n (cells xs : List Int) (g : Int) (A A1 : Option Addr) (c c1 n : Nat) (hn : xs.length = n) (w : World) (hr : I.C w A cells.length cells) (hr1 : I.C w A1 n xs) (hl : n ≤ cells.length) (hl2 : cells.length ≤ 1000000000) :
    Calls Try.prog 48 #[.slice A cells.length c, .slice A1 n c1, .int .i64 g] w fun e w' => ∃ v, e = .returned v ∧ OI w' w.heap.size v (part cells xs g) ∧ Below w.heap.size w w' := by
  subst hn
  exact fePart_c cells xs g A A1 c c1 w hr hr1 hl hl2
set_option maxHeartbeats 1600000 in
set_option maxRecDepth 100000 in
theorem specMeet_c (r c : Int) (m : List Int) (A : Option Addr) (k : Nat) (hk : m.length ≤ k) (w : World) (hr : I.C w A m.length m) :
    Calls Try.prog 8 #[.agg #[.int .i64 r, .int .i64 c, .slice A m.length k]] w fun e w' => ∃ v, e = .returned (.tuple #[v, .bool (decide (0 < lst r c m))]) ∧ ST w' w.heap.size v (meetL r c m) ∧ Below w.heap.size w w' := by
  have HR := Aside0.mk hr
  have hX := Aside0.mk (blk_new w (.cells #[.int .i64 r, .int .i64 c, .slice A m.length k] 29))
  have hB := Aside0.mk (below_alloc (Below.refl w.heap.size w) (.cells #[.int .i64 r, .int .i64 c, .slice A m.length k] 29))
  clear hr
  rcases lst_cases r c m with hl | ⟨n, g, o, rfl, rfl, hv, hl, hg1, hg4, hso, hpos⟩
  · have HL := Aside0.mk hl
    clear hl
    go_enter Try.func8, Try.ntmps8
    go_wp2_with fail
    refine (specLeast_n HL.out A k hk _ (Kd.C_below HR.out hB.out)).mono ?_
    rintro e w1 ⟨rfl, hb⟩
    go_wp2
    go_ret2
    exact ⟨_, ret_tb (by rw [HL.out]; rfl), by rw [meetL_no HL.out]; exact ST_nil _ _, below_step hB.out hb⟩
  · have HL := Aside0.mk hl
    have HS := Aside0.mk hso
    have HV := Aside0.mk hv
    have HP := Aside0.mk hpos
    have hno := (splitF_ok hso).1
    have HNO := Aside0.mk hno
    have HOK := Aside0.mk (splitF_ok hso).2
    have hel := Aside0.mk (emp_len hv)
    have Hb := Aside0.mk (show (splitF n m g).isSome = true by rw [hso]; rfl)
    clear hl hso hv hpos hno
    go_enter Try.func8, Try.ntmps8
    go_wp2_with fail
    refine (specLeast_y HL.out hg1 A k hk _ (Kd.C_below HR.out hB.out)).mono ?_
    rintro e w1 ⟨rfl, hb⟩
    have HB1 := Aside0.mk (below_step hB.out hb)
    have HX1 := Aside0.mk (blk_below hX.out hb)
    obtain ⟨hx0, hx1, hx2⟩ := box3 HX1.out
    clear hb hB hX
    go_wp2_with fail
    refine (feEmpty_c n m HV.out A k _ (Kd.C_below HR.out HB1.out)).mono ?_
    rintro e w2 ⟨v2, rfl, ho2, hb2⟩
    obtain ⟨A2, c2, rfl, _⟩ := OI_shape ho2
    have HO2 := Aside0.mk (OI_C ho2)
    have HB2 := Aside0.mk (below_step HB1.out hb2)
    have HX2 := Aside0.mk (blk_below HX1.out hb2)
    clear hb2 ho2 hx0 hx1 hx2 HB1 HX1
    obtain ⟨hx0, hx1, hx2⟩ := box3 HX2.out
    go_wp2_with fail
    refine (feSplit_b HV.out hg4 Hb.out A A2 k c2 _ _ (Kd.C_below HR.out HB2.out) HO2.out).mono ?_
    rintro e w3 ⟨v3, rfl, ho3, hb3⟩
    obtain ⟨A3, c3, rfl, hc3⟩ := ho3 o HS.out
    have HO3 := Aside0.mk hc3
    have HE3 := Aside0.mk (Kd.C_below HO2.out hb3)
    have HB3 := Aside0.mk (below_step HB2.out hb3)
    have HX3 := Aside0.mk (blk_below HX2.out hb3)
    clear hb3 hc3 HB2 HX2 hx0 hx1 hx2 ho3 HO2
    go_wp2
    go_loopw [9, 10] (fun v i wr => ∃ j : Nat, j ≤ g ∧ i = .int .i64 j ∧ Aside0 (ST wr w3.heap.size v (meetTo n m o j)) ∧ Aside0 (Below w3.heap.size w3 wr)) (fun _ i _ => g - (intOf i).toNat)
    case atStart => exact ⟨0, Nat.zero_le _, rfl, ⟨ST_nil _ _⟩, ⟨Below.refl _ _⟩⟩
    case round =>
      obtain ⟨j, hj, rfl, HE, HB⟩ := hrel
      have HX := Aside0.mk (blk_below HX3.out HB.out)
      have HW := Aside0.mk (below_step HB3.out HB.out)
      obtain ⟨hx0, hx1, hx2⟩ := box3 HX.out
      by_cases hlt : j < g
      · have hpo := Aside0.mk (HOK.out j hlt)
        have hpo1 := Aside0.mk (ordP_ok hpo.out)
        have hml : Aside0 ((meetTo n m o j).length ≤ 1000000000) := ⟨by rw [meetTo_len]; omega⟩
        go_wp2
        go_region_held3 (fun w' => w'.cell? ⟨w.heap.size, 0, none⟩ = some (.int .i64 (m.length : Int)) ∧ w'.cell? ⟨w.heap.size, 1, none⟩ = some (.int .i64 (n : Int)) ∧ w'.cell? ⟨w.heap.size, 2, none⟩ = some (.slice A m.length k)) (first | exact ⟨hx0, hx1, hx2⟩ | exact box3a (blk_drew HX.out) HB6.out | exact box3a (blk_drew HX.out) HB5.out)
          (first | (go_at_call 48; with_reducible refine (fePart_n (emp n m) o j A2 _ c2 _ _ rfl _ (Kd.C_below HE3.out (below_drew1 HB.out)) (Kd.C_below HO3.out (below_drew1 HB.out)) (by have := HNO.out; omega) (by have := hel.out; omega)).mono ?_; rintro e w5 ⟨v5, rfl, ho5, hb5⟩; obtain ⟨A5, c5, rfl, _⟩ := OI_shape ho5; have HO5 := Aside0.mk ho5; have HB5 := Aside0.mk hb5; clear ho5 hb5) | (go_at_call 47; with_reducible refine (feOrder_o HV.out hpo.out HNO.out A _ k _ _ _ (Kd.C_below HR.out (below_step (below_drew1 HW.out) HB5.out)) _ HO5.out).mono ?_; rintro e w6 ⟨A6, k6, rfl, hc6, hb6⟩; have HO6 := Aside0.mk hc6; have HB6 := Aside0.mk (below_step HB5.out hb6); clear hc6 hb6))
        obtain ⟨hy0, hy1, hy2⟩ := box3a (blk_drew HX.out) HB6.out
        go_wp2_with fail
        refine (feCover_c n m _ HV.out.l6 (by have := hpo1.out.2.1; have := HV.out.l6; omega) hpo1.out.2.2 A _ k _ _ (Kd.C_below HR.out (below_step (below_drew1 HW.out) HB6.out)) HO6.out).mono ?_
        rintro e w7 ⟨v7, rfl, ho7, hb7⟩
        have HE7 := Aside0.mk (ST_elder (Kd.S_below (Kd.S_drew HE.out) HB6.out) ho7 hb7)
        have HB7 := Aside0.mk (below_step HB6.out hb7)
        have HO7 := Aside0.mk ho7
        clear ho7 hb7
        go_wp2_with (refine appST (w0 := w3) (base := w3.heap.size) (.tmp 43) (.tmp 47) rfl rfl _ v7 (meetTo n m o j) _ _ _ rfl rfl (Kd.R_lower HO7.out (below_step (below_drew1 HB.out) HB6.out).size) HE7.out (below_step (below_drew1 HB.out) HB7.out) (below_step (below_drew1 HB.out) HB7.out).size hml.out ?_; intro v8 w8 ho8 hb8 hg8 ha8; have HO8 := Aside0.mk ho8; have HB8 := Aside0.mk hb8; clear ho8 hb8 hg8 ha8)
        go_roundw
        case rel => exact ⟨j + 1, by omega, by go_num, by rw [meetTo_succ]; exact HO8, HB8⟩
        case measure => simp [intOf]; omega
      · have e : j = g := by omega
        subst e
        go_wp2
        go_ret2
        exact ⟨_, ret_tb (by simpa using HP.out), by rw [meetL_yes HL.out HS.out]; exact Kd.S_lower HE.out HB3.out.size, HW.out⟩
end Go.Proofs.Ytgddmgcneefeeaa.M
