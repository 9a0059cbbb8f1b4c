/- Lists of tables: held, alike, marked. -/
import Derived.Test.YtgddmgcneefeeaaL4
set_option linter.unusedVariables false
set_option linter.unusedSimpArgs false
namespace Go.Proofs.Ytgddmgcneefeeaa.M
open Go.RowKit Go.Proofs.YtgddmgcneefeeaaW.PrintWords
theorem mkL_at : ∀ {ts : List Tab} {j : Nat} (n : Int), j < ts.length → rdT (mkL n ts) j = (n + mkN (ts.take j), n + mkN (ts.take j) + 1, cnt (n + mkN (ts.take j) + 2) (rdT ts j).2.2.length)
  | [], j, n, h => by simp at h
  | t :: ts, 0, n, h => by simp [mkL, rdT, mkN]
  | t :: ts, j + 1, n, h => by
    have := mkL_at (ts := ts) (j := j) (n + (2 + t.2.2.length : Nat)) (by simpa using h)
    rw [show rdT (mkL n (t :: ts)) (j + 1) = rdT (mkL (n + (2 + t.2.2.length : Nat)) ts) j from rfl, this, List.take_succ_cons, mkN, show n + ((2 + t.2.2.length : Nat) : Int) + (mkN (ts.take j) : Int) = n + ((2 + t.2.2.length + mkN (ts.take j) : Nat) : Int) by omega]
    rfl
theorem mkN_step {ts : List Tab} {j : Nat} (h : j < ts.length) : mkN (ts.take (j + 1)) = mkN (ts.take j) + (2 + (rdT ts j).2.2.length) := by rw [takeT_snoc h, mkN_snoc]
set_option maxHeartbeats 800000 in
set_option maxRecDepth 100000 in
theorem heldTableS_c (ts : List Tab) (A : Option Addr) (c : Nat) (n : Int) (w : World) (hr : Kd.C kT w A ts.length (mkL n ts)) (h0 : 0 ≤ n) (h1 : n + mkN ts ≤ 1000000000) (hl : ts.length ≤ 1000000000) :
    Calls Try.prog 15 #[.slice A ts.length c, .int .i64 n] w fun e w' => e = .returned (.int .i64 (n + mkN ts)) ∧ w' = w := by
  have HR := Aside0.mk hr
  clear hr
  go_enter Try.func15, Try.ntmps15
  go_wp2
  go_loopw [1, 5] (fun q i wr => ∃ j : Nat, j ≤ ts.length ∧ i = .int .i64 j ∧ q = .int .i64 (n + mkN (ts.take j)) ∧ wr = w) (fun _ i _ => ts.length - (intOf i).toNat)
  case atStart => exact ⟨0, Nat.zero_le _, rfl, by simp [mkN], rfl⟩
  case round =>
    obtain ⟨j, hj, rfl, rfl, rfl⟩ := hrel
    by_cases hlt : j < ts.length
    · obtain ⟨ad, A', c', rfl, hx0, hx1, hx2, hC⟩ := at_T HR.out j hlt
      rw [mkL_at n hlt] at hx0 hx1 hx2 hC
      have hm := mkN_take (ts := ts) (j + 1)
      have HM := Aside0.mk (mkN_step hlt)
      have hm1 := mkN_take (ts := ts) j
      have hl1 : (rdT ts j).2.2.length ≤ mkN ts := by have := HM.out; omega
      have hsum : n + mkN (ts.take j) + (rdT ts j).2.2.length + 2 ≤ n + mkN ts := by have := HM.out; omega
      obtain ⟨K, hK, HK⟩ : ∃ K : Int, n + mkN (ts.take j) = K ∧ Aside0 (n + mkN (ts.take j) = K) := ⟨_, rfl, ⟨rfl⟩⟩
      rw [hK] at hx0 hx1 hx2 hC hsum ⊢
      have hK0 : 0 ≤ K := by omega
      obtain ⟨L, hL, HL⟩ : ∃ L : Nat, (rdT ts j).2.2.length = L ∧ Aside0 ((rdT ts j).2.2.length = L) := ⟨_, rfl, ⟨rfl⟩⟩
      rw [hL] at hx2 hC hsum hl1
      rw [show (K + 2 : Int) = K + 1 + 1 by omega] at hx2 hC
      have hcl : (cnt (K + 1 + 1) L).length ≤ 1000000000 := by rw [cnt_len]; omega
      have HC := Aside0.mk hC
      have Hh := Aside0.mk (held_cnt (K + 1 + 1) L)
      clear hK hL hm hm1 hC
      go_wp2_with fail
      refine (heldIntS_c _ A' c' _ _ HC.out (by omega) (by omega) hcl).mono ?_
      rintro e w1 ⟨rfl, rfl⟩
      rw [Hh.out]
      have hng : decide (K + 1 + 1 + (L : Int) < 0) = false := by simp; omega
      go_wp2
      go_roundw
      case rel => exact ⟨j + 1, by omega, by go_num, by have := HM.out; have := HK.out; have := HL.out; congr 1; omega, trivial⟩
      case measure => simp [intOf]; omega
    · have He := Aside0.mk (show ts.take j = ts from List.take_of_length_le (by omega))
      go_wp2
      go_ret
      exact ⟨ret_int (by rw [He.out]), rfl⟩
theorem eqTable_yes (t : Tab) (A A1 : Option Addr) (k k1 : Nat) (w : World) (hr : I.C w A t.2.2.length t.2.2) (hr1 : I.C w A1 t.2.2.length t.2.2) :
    Calls Try.prog 12 #[.agg #[.int .i64 t.1, .int .i64 t.2.1, .slice A t.2.2.length k], .agg #[.int .i64 t.1, .int .i64 t.2.1, .slice A1 t.2.2.length k1]] w fun e w' => e = .returned (.bool true) ∧ Below w.heap.size w w' := by
  refine (eqTable_c t.1 t.2.1 t.1 t.2.1 t.2.2 t.2.2 A A1 k k1 w hr hr1).mono ?_
  rintro e w' ⟨rfl, h⟩
  exact ⟨ret_bool (by simp [tabEq]), h⟩
set_option maxHeartbeats 800000 in
set_option maxRecDepth 100000 in
theorem eqTableS_c (ts : List Tab) (A A1 : Option Addr) (c c1 : Nat) (w : World) (hr : Kd.C kT w A ts.length ts) (hr1 : Kd.C kT w A1 ts.length ts) (hl : ts.length ≤ 1000000000) :
    Calls Try.prog 11 #[.slice A ts.length c, .slice A1 ts.length c1] w fun e w' => e = .returned (.bool true) ∧ Below w.heap.size w w' := by
  have HR := Aside0.mk hr
  have HR1 := Aside0.mk hr1
  clear hr hr1
  go_enter Try.func11, Try.ntmps11
  go_wp2
  go_loopw [5] (fun i wr => ∃ j : Nat, j ≤ ts.length ∧ i = .int .i64 j ∧ Aside0 (Below w.heap.size w wr)) (fun i _ => ts.length - (intOf i).toNat)
  case atStart => exact ⟨0, Nat.zero_le _, rfl, ⟨Below.refl _ _⟩⟩
  case round =>
    obtain ⟨j, hj, rfl, HB⟩ := hrel
    by_cases hlt : j < ts.length
    · obtain ⟨ad, A', c', rfl, hx0, hx1, hx2, hC⟩ := at_T (Kd.C_below HR.out HB.out) j hlt
      obtain ⟨ad1, A1', c1', rfl, hy0, hy1, hy2, hC1⟩ := at_T (Kd.C_below HR1.out HB.out) j hlt
      have HC := Aside0.mk hC
      have HC1 := Aside0.mk hC1
      clear hC hC1
      go_wp2
      go_region_held3 (fun w' => w'.cell? (ad.add (j * 3)) = some (.int .i64 (rdT ts j).1) ∧ w'.cell? ⟨(ad.add (j * 3)).block, (ad.add (j * 3)).off + 1, none⟩ = some (.int .i64 (rdT ts j).2.1) ∧ w'.cell? ⟨(ad.add (j * 3)).block, (ad.add (j * 3)).off + 2, none⟩ = some (.slice A' (rdT ts j).2.2.length c') ∧ w'.cell? (ad1.add (j * 3)) = some (.int .i64 (rdT ts j).1) ∧ w'.cell? ⟨(ad1.add (j * 3)).block, (ad1.add (j * 3)).off + 1, none⟩ = some (.int .i64 (rdT ts j).2.1) ∧ w'.cell? ⟨(ad1.add (j * 3)).block, (ad1.add (j * 3)).off + 2, none⟩ = some (.slice A1' (rdT ts j).2.2.length c1')) (first | exact ⟨hx0, hx1, hx2, hy0, hy1, hy2⟩ | exact ⟨cell_lt (w := wr.drew) ‹_› hx0, cell_lt (w := wr.drew) ‹_› hx1, cell_lt (w := wr.drew) ‹_› hx2, cell_lt (w := wr.drew) ‹_› hy0, cell_lt (w := wr.drew) ‹_› hy1, cell_lt (w := wr.drew) ‹_› hy2⟩)
        (first | (go_at_call 12; with_reducible refine (eqTable_yes (rdT ts j) A' A1' c' c1' _ (Kd.C_below HC.out (below_drew (Below.refl _ _))) (Kd.C_below HC1.out (below_drew (Below.refl _ _)))).mono ?_; rintro e w1 ⟨rfl, hb⟩))
      have HB1 := Aside0.mk (below_step (below_drew1 HB.out) hb)
      go_wp2
      go_roundw
      case rel => exact ⟨j + 1, by omega, by go_num, HB1⟩
      case measure => simp [intOf]; omega
    · go_wp2
      go_ret
      exact ⟨rfl, HB.out⟩
end Go.Proofs.Ytgddmgcneefeeaa.M
