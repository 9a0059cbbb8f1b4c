/- Mirrors, what is below and what is indifferent. -/
import Derived.Test.YtgffgmfjoepjoaaDoorO6
set_option linter.unusedVariables false
set_option linter.unusedSimpArgs false
namespace Go.Proofs.YtgffgmfjoepjoaaDoor.M
open Go.RowKit Go.Proofs.YtgffgmfjoepjoaaDoorW.PrintWords
def mirL (l : List Int) : List Int := relL (fun i j => bet l j i) l.length
theorem mirL_len (l : List Int) : (mirL l).length = l.length := relL_len _ _
theorem mirL_rd {l : List Int} {i : Nat} (h : i < l.length) : rd (mirL l) i = belS l i := relL_rd _ h
set_option maxHeartbeats 800000 in
theorem mirror1_c (l : List Int) (hv : VO l) (i j g : Nat) (hi : i < l.length) (hj : j < l.length) (A : Option Addr) (k : Nat) (w : World) (hr : I.C w A l.length l) (hb : w.heap[g]? = some (.cells #[.int .i64 (l.length : Int), .slice A l.length k] 34 (0, 0))) :
    Calls Tryd.prog 217 #[.int .i64 (i : Int), .int .i64 (j : Int), .pointer (some ⟨g, 0, none⟩)] w fun e w' => e = .returned (.bool (bet l j i)) ∧ Below w.heap.size w w' := by
  obtain ⟨hx0, hx1⟩ := box2 hb
  have HR := Aside0.mk hr
  have h10 := hv.l10
  have HV := Aside0.mk hv
  clear hr hb hv
  go_enter Tryd.func217, Tryd.ntmps217
  go_wp2_with fail
  refine (better_c l HV.out (j : Int) (i : Int) A k _ HR.out (by omega) (by omega) (by omega) (by omega)).mono ?_
  rintro e w1 ⟨rfl, hb⟩
  go_wp2
  go_ret
  exact ⟨rfl, hb⟩
set_option maxHeartbeats 800000 in
set_option maxRecDepth 100000 in
theorem mirror_c (l : List Int) (hv : VO l) (A : Option Addr) (k : Nat) (w : World) (hr : I.C w A l.length l) :
    Calls Tryd.prog 207 #[.agg #[.int .i64 (l.length : Int), .slice A l.length k]] w fun e w' => ∃ v, e = .returned (.agg #[.int .i64 (l.length : Int), v]) ∧ OI w' w.heap.size v (mirL l) ∧ Below w.heap.size w w' := by
  have HR := Aside0.mk hr
  have HV := Aside0.mk hv
  have hmf : ∀ (fn : Fn) (first cap : Array Value) (w : World), (Instr.makeFunc fn first cap).run Tryd.prog w = .ok (.func fn first cap) w := fun _ _ _ _ => rfl
  have hX1 := Aside0.mk (blk_alloc (blk_new w (.cells #[.int .i64 (l.length : Int), .slice A l.length k] 34)) (.cells #[.int .i64 0, .slice none 0 0] 34))
  have hX2 := Aside0.mk (blk_this (X := w.alloc (.cells #[.int .i64 (l.length : Int), .slice A l.length k] 34)) (g := w.heap.size + 1) (o := .cells #[.int .i64 0, .slice none 0 0] 34) (by simp))
  have hB := Aside0.mk (below_alloc (below_alloc (Below.refl w.heap.size w) (.cells #[.int .i64 (l.length : Int), .slice A l.length k] 34)) (.cells #[.int .i64 0, .slice none 0 0] 34))
  clear hr hv
  go_enter Tryd.func207, Tryd.ntmps207
  go_wp2_with fail
  refine (relation_c l.length HV.out.l10 (fun i j => bet l j i) 217 #[.pointer (some ⟨w.heap.size, 0, none⟩)] _ (fun _ _ => rfl) (fun i j W hi hj hB2 => ?_)).mono ?_
  · exact mirror1_c l HV.out i j w.heap.size hi hj A k W (Kd.C_below (Kd.C_below HR.out hB.out) hB2) (blk_below hX1.out hB2)
  rintro e w1 ⟨v1, rfl, ho, hb⟩
  obtain ⟨A1, c1, rfl, _⟩ := OI_shape ho
  have HO1 := Aside0.mk (Kd.R_lower ho hB.out.size)
  have HB1 := Aside0.mk (below_step hB.out hb)
  have HX2 := Aside0.mk (blk_below hX2.out hb)
  clear ho hb hX1 hX2 hB
  obtain ⟨hz0, hz1⟩ := box2 HX2.out
  have hf0 := blk_frozen HX2.out 0
  have hf1 := blk_frozen HX2.out 1
  go_wp2
  refine bodyPost_ret (results_cell_row rfl _ _ (w.heap.size + 1) 34 #[.int .i64 (l.length : Int), .slice A1 (mirL l).length c1] (0, 0) _ rfl (put2 HX2.out) Tryd.underlying34 rfl (by kernel_rfl)) rfl ⟨_, rfl, ?_, ?_⟩
  · exact OI_farv (OI_farv HO1.out HX2.out (by decide) _) (blk_put HX2.out 0 _ rfl) (by decide) _
  · exact below_set (below_set HB1.out (by omega)) (by omega)
set_option maxHeartbeats 400000 in
theorem all_c (n : Nat) (hn : n ≤ 10) (v : Value) (w : World) :
    Calls Tryd.prog 208 #[.agg #[.int .i64 (n : Int), v]] w fun e w' => e = .returned (.int .i64 (2 ^ n - 1)) ∧ Below w.heap.size w w' := by
  obtain ⟨q, HQ, hq, hq1, hq2⟩ := pow10 hn
  have hw1 : IntKind.i64.wrap q = q := by rw [IntKind.wrap_i64]; omega
  have hw2 : IntKind.i64.wrap (q - 1) = q - 1 := by rw [IntKind.wrap_i64]; omega
  have hB := Aside0.mk (below_alloc (Below.refl w.heap.size w) (.cells #[.int .i64 (n : Int), v] 34))
  go_enter Tryd.func208, Tryd.ntmps208
  go_wp2
  go_ret
  exact ⟨ret_int (by rw [HQ.out]), hB.out⟩
end Go.Proofs.YtgffgmfjoepjoaaDoor.M
