/- Tables: the least number of parts, the program's and the reading's. -/
import Derived.Test.YtgddmgcneefeeaaTC
import Derived.Laws.EntriesVeiled
set_option linter.unusedVariables false
set_option linter.unusedSimpArgs false
namespace Go.Proofs.Ytgddmgcneefeeaa.M
open Go.RowKit Go.Proofs.YtgddmgcneefeeaaW.PrintWords
theorem emp_mem {c : Nat} {m : List Int} (hv : VT c m) {x : Int} (h : x ∈ emp c m) : 0 ≤ x ∧ x ≤ 35 ∧ 0 ≤ x / c ∧ x / c ≤ 5 := by
  simp only [emp, empTo, rowE, List.mem_flatMap, List.mem_map, List.mem_filter, List.mem_range] at h
  obtain ⟨r, hr, i, ⟨hi, _⟩, rfl⟩ := h
  have h1 := hv.c1
  have h2 := hv.c6
  have h3 := hv.l6
  have h4 : (r : Int) * c ≤ 5 * c := Int.mul_le_mul_of_nonneg_right (by omega) (by omega)
  have h5 : 0 ≤ (r : Int) * c := Int.mul_nonneg (by omega) (by omega)
  have h6 : ((r : Int) * c + i) / c = r := by
    rw [Int.add_comm, Int.add_mul_ediv_right _ _ (by omega), Int.ediv_eq_zero_of_lt (by omega) (by omega)]
    omega
  rw [h6]
  omega
theorem emp_len {c : Nat} {m : List Int} (hv : VT c m) : (emp c m).length ≤ 36 := by
  have h : ∀ r, (empTo c m r).length ≤ r * c := fun r => by
    induction r with
    | zero => simp [empTo]
    | succ r ih =>
      rw [empTo_succ, List.length_append]
      have : (rowE c (rd m r) r c).length ≤ c := by
        rw [rowE, List.length_map]
        exact Nat.le_trans (List.length_filter_le _ _) (by simp)
      have := Nat.succ_mul r c
      rw [Nat.succ_eq_add_one] at this
      omega
  have h1 := hv.c6
  have h2 := hv.l6
  have h3 := h m.length
  have h4 : m.length * c ≤ 6 * 6 := Nat.mul_le_mul h2 h1
  rw [emp]
  omega
theorem Kd_C_nil (w : World) (A : Option Addr) : I.C w A 0 [] := ⟨rfl, by omega, fun h => by omega⟩
/-- The split that the program takes. -/
def splitF (c : Nat) (m : List Int) (many : Nat) : Option (List Int) := findF m c (emp c m) many (emp c m).length []
set_option maxHeartbeats 1600000 in
set_option maxRecDepth 100000 in
theorem split_c (c : Nat) (m : List Int) (hv : VT c m) (many : Nat) (hmany : many ≤ 4) (A : Option Addr) (k : Nat) (w : World) (hr : I.C w A m.length m) :
    Calls Try.prog 51 #[.agg #[.int .i64 (m.length : Int), .int .i64 (c : Int), .slice A m.length k], .int .i64 (many : Int)] w fun e w' =>
      ∃ v, e = .returned v ∧ OptR w' v (splitF c m many) ∧ Below w.heap.size w w' := by
  have HR := Aside0.mk hr
  have HV := Aside0.mk hv
  have hmf : ∀ (fn : Fn) (first cap : Array Value) (w : World), (Instr.makeFunc fn first cap).run Try.prog w = .ok (.func fn first cap) w := fun _ _ _ _ => rfl
  have hX := Aside0.mk (blk_alloc (blk_new w (.cells #[.int .i64 (m.length : Int), .int .i64 (c : Int), .slice A m.length k] 29)) (.cells #[.int .i64 (many : Int)] 3))
  have hY := Aside0.mk (blk_this (X := w.alloc (.cells #[.int .i64 (m.length : Int), .int .i64 (c : Int), .slice A m.length k] 29)) (o := .cells #[.int .i64 (many : Int)] 3) (g := w.heap.size + 1) (by simp))
  have hB := Aside0.mk (below_alloc (below_alloc (Below.refl w.heap.size w) (.cells #[.int .i64 (m.length : Int), .int .i64 (c : Int), .slice A m.length k] 29)) (.cells #[.int .i64 (many : Int)] 3))
  clear hr hv
  go_enter Try.func51, Try.ntmps51
  go_wp2_with fail
  refine (emptyCells_c c m HV.out A k _ (Kd.C_below HR.out hB.out)).mono ?_
  rintro e w1 ⟨v1, rfl, ho1, hb1⟩
  obtain ⟨A6, c6, rfl, _⟩ := OI_shape ho1
  have HB1 := Aside0.mk (below_step hB.out hb1)
  have HX1 := Aside0.mk (blk_below hX.out hb1)
  have HY1 := Aside0.mk (blk_below hY.out hb1)
  have HO1 := Aside0.mk ho1
  clear hX hY hB hb1 ho1
  obtain ⟨fv, hfv⟩ : ∃ fv : Value, fv = .func (.func 87) #[] #[.pointer (some ⟨w1.heap.size, 0, none⟩), .pointer (some ⟨w.heap.size + 1, 0, none⟩), .pointer (some ⟨w.heap.size, 0, none⟩), .pointer (some ⟨w1.heap.size + 1, 0, none⟩)] := ⟨_, rfl⟩
  have HF := Aside0.mk (blk_this (X := w1.alloc (.cells #[.slice A6 (emp c m).length c6] 22)) (o := .cells #[fv] 65) (g := w1.heap.size + 1) (by simp))
  have hB3 := Aside0.mk (below_alloc (below_alloc (Below.refl w1.heap.size w1) (.cells #[.slice A6 (emp c m).length c6] 22)) (.cells #[fv] 65))
  have hbc := Aside0.mk (blk_alloc (blk_new w1 (.cells #[.slice A6 (emp c m).length c6] 22)) (.cells #[fv] 65))
  have hBox : Aside0 (Box c m (emp c m) many A A6 k c6 w1.heap.size (w.heap.size + 1) w.heap.size (w1.heap.size + 1) _) := ⟨⟨hbc.out, blk_below HY1.out hB3.out, blk_below HX1.out hB3.out, by rw [← hfv]; exact HF.out, Kd.C_below HR.out (below_step HB1.out hB3.out), Kd.C_below (OI_C HO1.out) hB3.out⟩⟩
  have hb4 := Aside0.mk (hBox.out.below (below_alloc (Below.refl _ _) (.cells #[] 3)))
  have hb5 := Aside0.mk (below_alloc (below_step HB1.out hB3.out) (.cells #[] 3))
  subst hfv
  clear hbc HF hB3 hBox
  go_wp2_with fail
  have hsp := split1_c c m (emp c m) HV.out many hmany (fun x hx => ⟨(emp_mem HV.out hx).1, (emp_mem HV.out hx).2.1, (emp_mem HV.out hx).2.2.2⟩) (emp_len HV.out) A A6 k c6 w1.heap.size (w.heap.size + 1) w.heap.size (w1.heap.size + 1) (emp c m).length
  unfold SplitC at hsp
  with_reducible refine (hsp [] _ 0 0 _ List.length_nil (by omega) hb4.out (Kd_C_nil _ _)).mono ?_
  rintro e w2 ⟨v2, rfl, ho2, hb2⟩
  have HO2 := Aside0.mk ho2
  have HB2 := Aside0.mk (below_step hb5.out hb2)
  clear ho2 hb2
  go_wp2
  go_ret
  exact ⟨_, rfl, HO2.out, HB2.out⟩
end Go.Proofs.Ytgddmgcneefeeaa.M
