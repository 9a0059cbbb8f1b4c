/- The meet of biorders: the program's function. -/
import Derived.Test.YtgddmgcneefeeaaM1
set_option linter.unusedVariables false
set_option linter.unusedSimpArgs false
namespace Go.Proofs.Ytgddmgcneefeeaa.M
open Go.RowKit Go.Proofs.YtgddmgcneefeeaaW.PrintWords
theorem ret_tb {v : Value} {a b : Bool} (h : a = b) : Ending.returned (.tuple #[v, .bool a]) = .returned (.tuple #[v, .bool b]) := by rw [h]
theorem meetL_no {r c : Int} {m : List Int} (h : lst r c m = 0) : meetL r c m = [] := by rw [meetL, h]; rfl
theorem meetL_yes {n g : Nat} {m o : List Int} (h : lst m.length n m = g) (ho : splitF n m g = some o) : meetL m.length n m = meetTo n m o g := by
  rw [meetL, h, Int.toNat_natCast, Int.toNat_natCast, ho]; rfl
theorem box3a {w w1 : World} {a b c : Value} {g t : Nat} (h : w.heap[g]? = some (.cells #[a, b, c] t (0, 0))) (hb : Below w.heap.size w w1) :
    w1.cell? ⟨g, 0, none⟩ = some a ∧ w1.cell? ⟨g, 1, none⟩ = some b ∧ w1.cell? ⟨g, 2, none⟩ = some c := box3 (blk_below h hb)
/-- LeastParts at a valid table with few empty cells that has a split. -/
theorem implLeast_y {n g : Nat} {m : List Int} (h : lst m.length n m = g) (h1 : 1 ≤ g) (A : Option Addr) (k : Nat) (hk : m.length ≤ k) (w : World) (hr : I.C w A m.length m) :
    Calls Try.prog 18 #[.agg #[.int .i64 (m.length : Int), .int .i64 (n : Int), .slice A m.length k]] w fun e w' => e = .returned (.tuple #[.int .i64 (g : Int), .bool true]) ∧ Below w.heap.size w w' := by
  refine (implLeast_c _ _ m A k hk w hr).mono ?_
  rintro e w' ⟨rfl, hb⟩
  exact ⟨by rw [h, show decide (0 < (g : Int)) = true by simp; omega], hb⟩
theorem implLeast_n {r c : Int} {m : List Int} (h : lst r c m = 0) (A : Option Addr) (k : Nat) (hk : m.length ≤ k) (w : World) (hr : I.C w A m.length m) :
    Calls Try.prog 18 #[.agg #[.int .i64 r, .int .i64 c, .slice A m.length k]] w fun e w' => e = .returned (.tuple #[.int .i64 0, .bool false]) ∧ Below w.heap.size w w' := by
  refine (implLeast_c _ _ m A k hk w hr).mono ?_
  rintro e w' ⟨rfl, hb⟩
  exact ⟨by rw [h]; rfl, hb⟩
theorem lst_cases (r c : Int) (m : List Int) : lst r c m = 0 ∨ ∃ (n g : Nat) (o : List Int), r = m.length ∧ c = n ∧ VT n m ∧ lst m.length n m = g ∧ 1 ≤ g ∧ g ≤ 4 ∧ splitF n m g = some o ∧ 0 < lst r c m := by
  cases hf : few r c m
  · exact .inl (by rw [lst, hf]; rfl)
  · obtain ⟨n, rfl, rfl, hv⟩ := few_good hf
    have hl : lst m.length n m = leastF n m := by rw [lst, hf, if_pos rfl, Int.toNat_natCast]
    rcases Int.lt_or_le 0 (leastF n m) with h | h
    · obtain ⟨g, h1, h2, h3, o, h4⟩ := leastF_has h
      exact .inr ⟨n, g, o, rfl, rfl, hv, by rw [hl, h1], h2, h3, h4, by rw [hl]; exact h⟩
    · have := (leastF_pos n m).1
      exact .inl (by rw [hl]; omega)
set_option maxHeartbeats 1600000 in
set_option maxRecDepth 100000 in
theorem implMeet_c (r c : Int) (m : List Int) (A : Option Addr) (k : Nat) (hk : m.length ≤ k) (w : World) (hr : I.C w A m.length m) :
    Calls Try.prog 10 #[.agg #[.int .i64 r, .int .i64 c, .slice A m.length k]] w fun e w' => ∃ v, e = .returned (.tuple #[v, .bool (decide (0 < lst r c m))]) ∧ ST w' w.heap.size v (meetL r c m) ∧ Below w.heap.size w w' := by
  have HR := Aside0.mk hr
  have hX := Aside0.mk (blk_new w (.cells #[.int .i64 r, .int .i64 c, .slice A m.length k] 29))
  have hB := Aside0.mk (below_alloc (Below.refl w.heap.size w) (.cells #[.int .i64 r, .int .i64 c, .slice A m.length k] 29))
  clear hr
  rcases lst_cases r c m with hl | ⟨n, g, o, rfl, rfl, hv, hl, hg1, hg4, hso, hpos⟩
  · have HL := Aside0.mk hl
    clear hl
    go_enter Try.func10, Try.ntmps10
    go_wp2_with fail
    refine (implLeast_n HL.out A k hk _ (Kd.C_below HR.out hB.out)).mono ?_
    rintro e w1 ⟨rfl, hb⟩
    go_wp2
    go_ret2
    exact ⟨_, ret_tb (by rw [HL.out]; rfl), by rw [meetL_no HL.out]; exact ST_nil _ _, below_step hB.out hb⟩
  · have HL := Aside0.mk hl
    have HS := Aside0.mk hso
    have HV := Aside0.mk hv
    have HP := Aside0.mk hpos
    have hno := (splitF_ok hso).1
    have HNO := Aside0.mk hno
    have HOK := Aside0.mk (splitF_ok hso).2
    clear hl hso hv hpos hno
    go_enter Try.func10, Try.ntmps10
    go_wp2_with fail
    refine (implLeast_y HL.out hg1 A k hk _ (Kd.C_below HR.out hB.out)).mono ?_
    rintro e w1 ⟨rfl, hb⟩
    have hs1 : w.heap.size < w1.heap.size := by have := hb.size; simp at this; omega
    have HB1 := Aside0.mk (below_step hB.out hb)
    have HX1 := Aside0.mk (blk_below hX.out hb)
    obtain ⟨hx0, hx1, hx2⟩ := box3 HX1.out
    clear hb hB hX
    have hE := Aside0.mk (ST_empty (W := w1) rfl HB1.out.size)
    have HB2 := Aside0.mk (below_alloc HB1.out (.cells #[] 29))
    have HX2 := Aside0.mk (blk_alloc HX1.out (.cells #[] 29))
    obtain ⟨hy0, hy1, hy2⟩ := box3 HX2.out
    go_wp2_with fail
    refine (split_c n m HV.out g hg4 A k _ (Kd.C_below HR.out HB2.out)).mono ?_
    rintro e w3 ⟨v3, rfl, ho3, hb3⟩
    rw [HS.out] at ho3
    obtain ⟨ad3, c3, rfl, hc3⟩ := ho3
    have HO3 := Aside0.mk hc3
    have HE3 := Aside0.mk (Kd.S_below hE.out hb3)
    have HB3 := Aside0.mk (below_step HB2.out hb3)
    have HX3 := Aside0.mk (blk_below HX2.out hb3)
    have HK3 := Aside0.mk (C_but HO3.out (blk_below (blk_new w1 (.cells #[] 29)) hb3))
    clear hb3 hc3 HB2 HX2 hE HB1 HX1 hx0 hx1 hx2 hy0 hy1 hy2
    have hs3 : w.heap.size < w3.heap.size := by have := HE3.out; have h := Kd.S_lt this _ rfl; exact Nat.lt_trans hs1 h
    obtain ⟨g1, hg1e⟩ : ∃ g1, g1 = w1.heap.size := ⟨_, rfl⟩
    rw [← hg1e] at HK3 HE3 hs1 ⊢
    clear hg1e
    go_wp2
    go_loopw [6, 21] (fun v i wr => ∃ j : Nat, j ≤ g ∧ i = .int .i64 j ∧ Aside0 (ST wr w.heap.size v (meetTo n m o j)) ∧ Aside0 (Below w.heap.size w wr) ∧ Aside0 (KeepBut w3 wr g1 none) ∧ Aside0 (v.ownBlock = none ∨ v.ownBlock = some g1 ∨ ∃ b, v.ownBlock = some b ∧ w3.heap.size ≤ b) ∧
        Aside0 (wr.heap[w.heap.size]? = some (.cells #[.int .i64 (m.length : Int), .int .i64 (n : Int), .slice A m.length k] 29 (0, 0)))) (fun _ i _ => g - (intOf i).toNat)
    case atStart => exact ⟨0, Nat.zero_le _, rfl, HE3, HB3, ⟨KeepBut.refl _ _ _⟩, ⟨.inr (.inl rfl)⟩, HX3⟩
    case round =>
      clear HE3 HB3 HX3 HO3
      obtain ⟨j, hj, rfl, HE, HB, HK, HW, HX⟩ := hrel
      obtain ⟨hx0, hx1, hx2⟩ := box3 HX.out
      by_cases hlt : j < g
      · have hpo := Aside0.mk (HOK.out j hlt)
        have hpo1 := Aside0.mk (ordP_ok hpo.out)
        have HO := Aside0.mk (HK3.out _ HK.out)
        have hel := Aside0.mk (emp_len HV.out)
        have hml : Aside0 ((meetTo n m o j).length ≤ 1000000000) := ⟨by rw [meetTo_len]; omega⟩
        go_wp2
        go_region_held3 (fun w' => w'.cell? ⟨w.heap.size, 0, none⟩ = some (.int .i64 (m.length : Int)) ∧ w'.cell? ⟨w.heap.size, 1, none⟩ = some (.int .i64 (n : Int)) ∧ w'.cell? ⟨w.heap.size, 2, none⟩ = some (.slice A m.length k)) (first | exact ⟨hx0, hx1, hx2⟩ | exact box3 HX8.out | exact box3 (blk_alloc (blk_below (blk_drew HX.out) HB7.out) _) | exact box3a (blk_drew HX.out) HB7.out | exact box3a (blk_drew HX.out) HB6.out | exact box3a (blk_drew HX.out) HB5.out | exact box3a (blk_drew HX.out) HB4.out)
          (first | (go_at_call 55; with_reducible refine (emptyCells_c n m HV.out A k _ (Kd.C_below HR.out (below_drew1 HB.out))).mono ?_; rintro e w4 ⟨v4, rfl, ho4, hb4⟩; obtain ⟨A4, c4, rfl, _⟩ := OI_shape ho4; have HO4 := Aside0.mk (OI_C ho4); have HB4 := Aside0.mk hb4; clear ho4 hb4) | (go_at_call 54; with_reducible refine (cellsWith_n (emp n m) o j A4 _ c4 _ _ rfl _ HO4.out (Kd.C_below (Kd.C_drew HO.out) HB4.out) (by have := HNO.out; omega) (by have := hel.out; omega)).mono ?_; rintro e w5 ⟨v5, rfl, ho5, hb5⟩; obtain ⟨A5, c5, rfl, _⟩ := OI_shape ho5; have HO5 := Aside0.mk ho5; have HB5 := Aside0.mk (below_step HB4.out hb5); clear ho5 hb5) | (go_at_call 53; with_reducible refine (freeOrder_o HV.out hpo.out HNO.out A _ k _ _ _ (Kd.C_below HR.out (below_step (below_drew1 HB.out) HB5.out)) _ HO5.out).mono ?_; rintro e w6 ⟨A6, k6, rfl, hc6, hb6⟩; have HO6 := Aside0.mk hc6; have HB6 := Aside0.mk (below_step HB5.out hb6); clear hc6 hb6) | (go_at_call 52; with_reducible refine (cover_c n m _ HV.out.l6 (by have := hpo1.out.2.1; have := HV.out.l6; omega) hpo1.out.2.2 A _ k _ _ (Kd.C_below HR.out (below_step (below_drew1 HB.out) HB6.out)) HO6.out).mono ?_; rintro e w7 ⟨v7, rfl, ho7, hb7⟩; have HE7 := Aside0.mk (ST_elder (Kd.S_below (Kd.S_drew HE.out) HB6.out) ho7 hb7); have HB7 := Aside0.mk (below_step HB6.out hb7); have HO7 := Aside0.mk ho7; clear ho7 hb7) | (refine appST_step (w0 := w) (base := w.heap.size) (.tmp 24) (.tmp 34) (by rfl) rfl _ v7 (meetTo n m o j) _ _ _ rfl rfl (Kd.R_lower HO7.out (below_step (below_drew1 HB.out) HB6.out).size) HE7.out (below_step (below_drew1 HB.out) HB7.out) (below_step (below_drew1 HB.out) HB7.out).size hml.out ?_; intro v8 w8 ho8 hb8 hg8 ha8; have HO8 := Aside0.mk ho8; have HB8 := Aside0.mk hb8; have HK8 := Aside0.mk (keep_grown (keep_below (W := wr.drew) HK.out HB7.out) hg8 HW.out); have HW8 := Aside0.mk (own_next HW.out ha8 (keep_below (W := wr.drew) HK.out HB7.out).1); have HX8 := Aside0.mk (blk_grown (blk_below (blk_drew HX.out) HB7.out) hg8 (own_ne HW.out hs1 hs3)); clear ho8 hb8 hg8 ha8))
        go_wp2
        go_roundw
        case rel => exact ⟨j + 1, by omega, by go_num, by rw [meetTo_succ]; exact HO8, HB8, HK8, HW8, HX8⟩
        case measure => simp [intOf]; omega
      · have e : j = g := by omega
        subst e
        go_wp2
        go_ret2
        exact ⟨_, ret_tb (by simpa using HP.out), by rw [meetL_yes HL.out HS.out]; exact HE.out, HB.out⟩
end Go.Proofs.Ytgddmgcneefeeaa.M
