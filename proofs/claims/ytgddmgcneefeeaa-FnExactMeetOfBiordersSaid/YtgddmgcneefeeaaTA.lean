/- Tables: the reading's feSplit. -/
import Derived.Test.YtgddmgcneefeeaaT9
set_option linter.unusedVariables false
set_option linter.unusedSimpArgs false
namespace Go.Proofs.Ytgddmgcneefeeaa.M
open Go.RowKit Go.Proofs.YtgddmgcneefeeaaW.PrintWords
theorem part_mem {cells xs : List Int} {g x : Int} (hl : xs.length ≤ cells.length) (h : x ∈ part cells xs g) : x ∈ cells := by
  simp only [part, partTo, List.mem_map, List.mem_filter, List.mem_range] at h
  obtain ⟨i, ⟨h1, _⟩, rfl⟩ := h
  exact rd_mem (by omega) (by omega)
theorem part_len (cells xs : List Int) (g : Int) : (part cells xs g).length ≤ xs.length := by
  simp only [part, partTo, List.length_map]
  exact Nat.le_trans (List.length_filter_le _ _) (by simp)
theorem OI_C {w : World} {b n c : Nat} {A : Option Addr} {xs : List Int} (h : OI w b (.slice A n c) xs) : I.C w A n xs := by
  obtain ⟨h1, _, h2⟩ := Kd.R_reads' h
  rw [h1]; exact h2
theorem lit1 (W : World) (y : Int) : I.C (W.alloc (.cells #[.int .i64 y] 3)) (some ⟨W.heap.size, 0, none⟩) 1 [y] := OI_C (OI_lit W W.heap.size [y] (Nat.le_refl _) (by simp))
/-- append(v, ys...), ints, in a region that draws its order. -/
theorem appRows_step {ops : Array Oper} {o : Oper} {a : Act} {Q : Exit → Act → World → Prop} {Kc : Act → World → Prop} {w0 W : World} {base : Nat} (s x : Operand) (hw : Region.wanted o (yielded ops a.tmps) = true)
    (ho : o.op = .call { callee := .builtin .append, args := #[s, x], argTypes := #[22, 22] }) (v : Value) (xs ys : List Int) (A : Option Addr) (n c : Nat) (hs : a.eval s = v) (hx : a.eval x = .slice A n c)
    (HO : OI W base v xs) (HY : I.C W A n ys) (HB : Below base w0 W) (hbase : base ≤ W.heap.size) (hl : xs.length + n ≤ 1000000000)
    (h : ∀ v1 w1, OI w1 base v1 (xs ++ ys) → Below base w0 w1 → W.grownBy w1 v.ownBlock → Kc (a.put o.dst v1) w1) :
    if Region.wanted o (yielded ops a.tmps) = true then Oper.wp Try.prog o a W Kc Q else Kc (a.put o.dst undef) W :=
  Kd.R_append_rows_step I (w0 := w0) base hw s x 22 3 (.int .i64 0) 8 ho Try.underlying22 infoI rfl (by decide) (by omega) v xs ys A n c T (fun _ => False) hs hx HO HY (fun _ _ h => h) (fun _ h => h.elim) (fun _ _ => trivial) HB hbase (by omega)
    fun v1 w1 h1 h2 h3 _ => h v1 w1 h1 h2 h3
theorem feOrder_b {c : Nat} {m cells xs : List Int} {g : Int} {b : Bool} (hv : VT c m) (h : okPart m c cells xs g = b) (hcell : ∀ x ∈ cells, 0 ≤ x ∧ x ≤ 35) (hcl : cells.length ≤ 36) (hxl : xs.length ≤ cells.length)
    (A A1 : Option Addr) (k n k1 : Nat) (w : World) (hr : I.C w A m.length m) (b1 : Nat) (hr1 : OI w b1 (.slice A1 n k1) (part cells xs g)) :
    Calls Try.prog 47 #[.agg #[.int .i64 (m.length : Int), .int .i64 (c : Int), .slice A m.length k], .slice A1 n k1] w fun e w' => ∃ v, e = .returned (.tuple #[v, .bool b]) ∧ Below w.heap.size w w' := by
  have hn := (Kd.R_reads' hr1).1
  subst hn
  refine (feOrder_c c m (part cells xs g) hv A A1 k k1 w hr (OI_C hr1) (fun x hx => hcell x (part_mem hxl hx)) (Nat.le_trans (part_len _ _ _) (by omega))).mono ?_
  rintro e w' ⟨v, rfl, _, hb⟩
  exact ⟨v, by rw [← h]; rfl, hb⟩
theorem findS_no {m : List Int} {C : Int} {cells : List Int} {many d : Nat} {xs : List Int} {g : Nat} (hg : g < many) (h : okPart m C cells xs g = false) : findS m C cells many d xs = none := by
  have h1 : (List.range many).all (fun g => okPart m C cells xs g) = false := by
    rw [List.all_eq_false]
    exact ⟨g, by simpa using hg, by rw [h]; simp⟩
  cases d <;> (rw [findS, h1]; rfl)
theorem findS_yes0 {m : List Int} {C : Int} {cells : List Int} {many : Nat} {xs : List Int} (h : ∀ i : Nat, i < many → okPart m C cells xs i = true) : findS m C cells many 0 xs = some xs := by
  rw [findS, if_pos (by rw [List.all_eq_true]; intro g hg; exact h g (by simpa using hg))]
theorem findS_yes1 {m : List Int} {C : Int} {cells : List Int} {many d : Nat} {xs : List Int} (h : ∀ i : Nat, i < many → okPart m C cells xs i = true) : findS m C cells many (d + 1) xs = scan (fun g => findS m C cells many d (xs ++ [(g : Int)])) many 0 := by
  rw [findS, if_pos (by rw [List.all_eq_true]; intro g hg; exact h g (by simpa using hg))]
end Go.Proofs.Ytgddmgcneefeeaa.M
