/- Words of this claim: small lemmas for walks over tables and lists. -/
import Derived.Test.YtgffgmfjoepjoaaDoorProg
import Derived.Test.YtgffgmfjoepjoaaDoorWWords
import Derived.WalkSpells
import Derived.WalkLawsBesides
import Derived.Deep.QuietTactic
import Derived.BigQuiet
import Derived.Deep.RegionHeld3
import Derived.OrdersHeld
import Derived.Laws.BitsLemmas
set_option linter.unusedVariables false
set_option linter.unusedSimpArgs false
namespace Go.Proofs.YtgffgmfjoepjoaaDoor.M
open Go.RowKit Go.Proofs.YtgffgmfjoepjoaaDoorW.PrintWords
abbrev I := Kd.int .i64
abbrev T : Nat → Prop := fun _ => True
theorem infoI : (Tryd.prog.info? 3).map (fun i => (i.zero, i.size, i.bytes)) = some (some (.int .i64 0), 1, 8) := by kernel_rfl
/-- A slice of ints of the call's own (blocks from base on). -/
abbrev OI (w : World) (base : Nat) (v : Value) (xs : List Int) : Prop := Kd.R I 3 w base T v xs
theorem box3 {w' : World} {a b c : Value} {g t : Nat} (h : w'.heap[g]? = some (.cells #[a, b, c] t (0, 0))) :
    w'.cell? ⟨g, 0, none⟩ = some a ∧ w'.cell? ⟨g, 1, none⟩ = some b ∧ w'.cell? ⟨g, 2, none⟩ = some c := ⟨(blk_cell h 0).trans rfl, (blk_cell h 1).trans rfl, (blk_cell h 2).trans rfl⟩
theorem box2 {w' : World} {a b : Value} {g t : Nat} (h : w'.heap[g]? = some (.cells #[a, b] t (0, 0))) :
    w'.cell? ⟨g, 0, none⟩ = some a ∧ w'.cell? ⟨g, 1, none⟩ = some b := ⟨(blk_cell h 0).trans rfl, (blk_cell h 1).trans rfl⟩
theorem box1 {w' : World} {a : Value} {g t : Nat} (h : w'.heap[g]? = some (.cells #[a] t (0, 0))) : w'.cell? ⟨g, 0, none⟩ = some a := (blk_cell h 0).trans rfl
theorem quiet_add_same {P : Program} {f : FuncId} {args : Array Value} {w : World} {a n : Nat} {v : Value}
    (h : Calls P f args (w.drewN (a + n)) fun e w' => e = .returned v ∧ w' = w.drewN (a + n)) :
    Calls P f args (w.drewN (a + n)) fun e w'' => e = .returned v ∧ ∃ m, w'' = w.drewN (a + m) :=
  h.mono fun _ _ ⟨he, hm⟩ => ⟨he, n, hm⟩
theorem quiet_add {P : Program} {f : FuncId} {args : Array Value} {w : World} {a n : Nat} {v : Value}
    (h : Calls P f args (w.drewN (a + n)) fun e w' => e = .returned v ∧ ∃ m, w' = (w.drewN (a + n)).drewN m) :
    Calls P f args (w.drewN (a + n)) fun e w'' => e = .returned v ∧ ∃ m, w'' = w.drewN (a + m) :=
  h.mono fun _ _ ⟨he, m, hm⟩ => ⟨he, n + m, by rw [hm, World.drewN_drewN, Nat.add_assoc]⟩
theorem OI_shape {w : World} {b : Nat} {v : Value} {xs : List Int} (h : OI w b v xs) : ∃ A c, v = .slice A xs.length c ∧ xs.length ≤ c ∧ I.C w A xs.length xs := Kd.R_reads h
theorem OI_nil (w : World) (b : Nat) : OI w b (.slice none 0 0) [] := Kd.R_nil _ _ _ _ _
theorem OI_cons_some {w : World} {b : Nat} {A : Option Addr} {n c : Nat} {xs : List Int} (h : OI w b (.slice A n c) xs) (hx : 0 < xs.length) : ∃ ad, A = some ad := by
  obtain ⟨_, _, hc⟩ := Kd.R_reads' h
  obtain ⟨ad, e, _⟩ := Kd.at_int hc 0 (by omega) (by omega)
  exact ⟨ad, e⟩
/-- append(v, y), ints. -/
theorem appI {ops : Array Oper} {rest : List Oper} {o : Oper} {a : Act} {Q : Exit → Act → World → Prop} {w0 W : World} {base : Nat} (s x : Operand) (hgd : o.guard = none)
    (ho : o.op = .call { callee := .builtin .append, args := #[s, x], argTypes := #[32, 32] }) (v : Value) (xs : List Int) (y : Int) (hs : a.eval s = v) (hx : a.eval x = .slice (some ⟨W.heap.size, 0, none⟩) 1 1)
    (HO : OI W base v xs) (HB : Below base w0 W) (hbase : base ≤ W.heap.size) (hl : xs.length ≤ 1000000000)
    (h : ∀ v1 w1, OI w1 base v1 (xs ++ [y]) → Below base w0 w1 → W.grownBy w1 v.ownBlock → wpList Tryd.prog ops Q rest (a.put o.dst v1) w1) :
    wpList Tryd.prog ops Q (o :: rest) a (W.alloc (.cells #[.int .i64 y] 3)) :=
  Kd.R_append I (w0 := w0) base hgd s x 32 3 (.int .i64 0) 8 ho Tryd.underlying32 infoI rfl (by decide) (by omega) v xs y [.int .i64 y] T (fun _ => False) hs hx rfl (fun _ hk => hk.elim) (fun _ _ => trivial) HO HB hbase (by omega)
    fun v1 w1 h1 h2 h3 _ => h v1 w1 h1 h2 h3
/-- append(v, y), ints, in a region that draws its order. -/
theorem appI_step {ops : Array Oper} {o : Oper} {a : Act} {Q : Exit → Act → World → Prop} {Kc : Act → World → Prop} {w0 W : World} {base : Nat} (s x : Operand) (hw : Region.wanted o (yielded ops a.tmps) = true)
    (ho : o.op = .call { callee := .builtin .append, args := #[s, x], argTypes := #[32, 32] }) (v : Value) (xs : List Int) (y : Int) (hs : a.eval s = v) (hx : a.eval x = .slice (some ⟨W.heap.size, 0, none⟩) 1 1)
    (HO : OI W base v xs) (HB : Below base w0 W) (hbase : base ≤ W.heap.size) (hl : xs.length ≤ 1000000000)
    (h : ∀ v1 w1, OI w1 base v1 (xs ++ [y]) → Below base w0 w1 → W.grownBy w1 v.ownBlock → Kc (a.put o.dst v1) w1) :
    if Region.wanted o (yielded ops a.tmps) = true then Oper.wp Tryd.prog o a (W.alloc (.cells #[.int .i64 y] 3)) Kc Q else Kc (a.put o.dst undef) (W.alloc (.cells #[.int .i64 y] 3)) :=
  Kd.R_append_step I (w0 := w0) base hw s x 32 3 (.int .i64 0) 8 ho Tryd.underlying32 infoI rfl (by decide) (by omega) v xs y [.int .i64 y] T (fun _ => False) hs hx rfl (fun _ hk => hk.elim) (fun _ _ => trivial) HO HB hbase (by omega)
    fun v1 w1 h1 h2 h3 _ => h v1 w1 h1 h2 h3
/-- append(v, y), ints. -/
theorem appI4 {ops : Array Oper} {rest : List Oper} {o : Oper} {a : Act} {Q : Exit → Act → World → Prop} {w0 W : World} {base : Nat} (s x : Operand) (hgd : o.guard = none)
    (ho : o.op = .call { callee := .builtin .append, args := #[s, x], argTypes := #[32, 32] }) (v : Value) (xs : List Int) (y : Int) (hs : a.eval s = v) (hx : a.eval x = .slice (some ⟨W.heap.size, 0, none⟩) 1 1)
    (HO : OI W base v xs) (HB : Below base w0 W) (hbase : base ≤ W.heap.size) (hl : xs.length ≤ 1000000000)
    (h : ∀ v1 w1, OI w1 base v1 (xs ++ [y]) → Below base w0 w1 → W.grownBy w1 v.ownBlock → (v1.ownBlock = v.ownBlock ∨ ∃ b, v1.ownBlock = some b ∧ W.heap.size ≤ b) → wpList Tryd.prog ops Q rest (a.put o.dst v1) w1) :
    wpList Tryd.prog ops Q (o :: rest) a (W.alloc (.cells #[.int .i64 y] 3)) :=
  Kd.R_append I (w0 := w0) base hgd s x 32 3 (.int .i64 0) 8 ho Tryd.underlying32 infoI rfl (by decide) (by omega) v xs y [.int .i64 y] T (fun _ => False) hs hx rfl (fun _ hk => hk.elim) (fun _ _ => trivial) HO HB hbase (by omega)
    h
/-- append(v, y), ints, in a region that draws its order. -/
theorem appI_step4 {ops : Array Oper} {o : Oper} {a : Act} {Q : Exit → Act → World → Prop} {Kc : Act → World → Prop} {w0 W : World} {base : Nat} (s x : Operand) (hw : Region.wanted o (yielded ops a.tmps) = true)
    (ho : o.op = .call { callee := .builtin .append, args := #[s, x], argTypes := #[32, 32] }) (v : Value) (xs : List Int) (y : Int) (hs : a.eval s = v) (hx : a.eval x = .slice (some ⟨W.heap.size, 0, none⟩) 1 1)
    (HO : OI W base v xs) (HB : Below base w0 W) (hbase : base ≤ W.heap.size) (hl : xs.length ≤ 1000000000)
    (h : ∀ v1 w1, OI w1 base v1 (xs ++ [y]) → Below base w0 w1 → W.grownBy w1 v.ownBlock → (v1.ownBlock = v.ownBlock ∨ ∃ b, v1.ownBlock = some b ∧ W.heap.size ≤ b) → Kc (a.put o.dst v1) w1) :
    if Region.wanted o (yielded ops a.tmps) = true then Oper.wp Tryd.prog o a (W.alloc (.cells #[.int .i64 y] 3)) Kc Q else Kc (a.put o.dst undef) (W.alloc (.cells #[.int .i64 y] 3)) :=
  Kd.R_append_step I (w0 := w0) base hw s x 32 3 (.int .i64 0) 8 ho Tryd.underlying32 infoI rfl (by decide) (by omega) v xs y [.int .i64 y] T (fun _ => False) hs hx rfl (fun _ hk => hk.elim) (fun _ _ => trivial) HO HB hbase (by omega)
    h
/-- append(v, ys...), ints; ys is read. -/
theorem appRows {ops : Array Oper} {rest : List Oper} {o : Oper} {a : Act} {Q : Exit → Act → World → Prop} {w0 W : World} {base : Nat} (s x : Operand) (hgd : o.guard = none)
    (ho : o.op = .call { callee := .builtin .append, args := #[s, x], argTypes := #[32, 32] }) (v : Value) (xs ys : List Int) (A : Option Addr) (c : Nat) (hs : a.eval s = v) (hx : a.eval x = .slice A ys.length c)
    (HO : OI W base v xs) (HY : I.C W A ys.length ys) (HB : Below base w0 W) (hbase : base ≤ W.heap.size) (hl : xs.length + ys.length ≤ 1000000000)
    (h : ∀ v1 w1, OI w1 base v1 (xs ++ ys) → Below base w0 w1 → W.grownBy w1 v.ownBlock → wpList Tryd.prog ops Q rest (a.put o.dst v1) w1) :
    wpList Tryd.prog ops Q (o :: rest) a W :=
  Kd.R_append_rows I (w0 := w0) base hgd s x 32 3 (.int .i64 0) 8 ho Tryd.underlying32 infoI rfl (by decide) (by omega) v xs ys A ys.length c T (fun _ => False) hs hx HO HY (fun _ _ h => h) (fun _ h => h.elim) (fun _ _ => trivial) HB hbase (by omega)
    fun v1 w1 h1 h2 h3 _ => h v1 w1 h1 h2 h3
/-- A slice's length, for a loop's measure. -/
def lenOf : Value → Nat | .slice _ n _ => n | _ => 0
theorem ret_bool {a b : Bool} (h : a = b) : Ending.returned (.bool a) = .returned (.bool b) := by rw [h]
theorem ret_int {k : IntKind} {a b : Int} (h : a = b) : Ending.returned (.int k a) = .returned (.int k b) := by rw [h]
theorem rd_mem {l : List Int} {i : Int} (h0 : 0 ≤ i) (h1 : i < l.length) : rd l i ∈ l := by
  unfold rd
  rw [List.getD_eq_getElem?_getD, List.getElem?_eq_getElem (by omega)]
  exact List.getElem_mem _
theorem take_snoc {l : List Int} {k : Nat} (h : k < l.length) : l.take (k + 1) = l.take k ++ [rd l k] := by
  rw [List.take_succ_eq_append_getElem h]
  simp [rd, h]
theorem OI_lit (W : World) (base : Nat) (xs : List Int) (hb : base ≤ W.heap.size) (hm : xs.length ≤ 1000000000) :
    OI (W.alloc (.cells (nums .i64 xs).toArray 3)) base (.slice (some ⟨W.heap.size, 0, none⟩) xs.length xs.length) xs :=
  Kd.R_of_own (own_lit W base 3 .i64 xs hb (by omega)) (fun _ _ => trivial)
theorem OI_lit0 (W : World) (base : Nat) (hb : base ≤ W.heap.size) : OI (W.alloc (.cells #[] 3)) base (.slice (some ⟨W.heap.size, 0, none⟩) 0 0) [] := OI_lit W base [] hb (by simp)
theorem blk_this {X : World} {o : Obj} {g : Nat} (h : X.heap.size = g) : (X.alloc o).heap[g]? = some o := by subst h; exact blk_new X o
theorem OI_made {W : World} {base n g : Nat} (hg : W.heap.size = g) (hb : base ≤ W.heap.size) (hm : n ≤ 1000000000) :
    OI (W.alloc (.cells (madeCells #[.int .i64 0] n) 3)) base (.slice (some ⟨g, 0, none⟩) n n) (List.replicate n 0) := by
  subst hg
  refine Kd.R_of_own (xs := List.replicate n 0) ?_ (fun _ _ => trivial)
  have h := own_made W base 3 .i64 n hb (by omega)
  rwa [List.length_replicate]
theorem OI_own {W : World} {b : Nat} {v : Value} {xs : List Int} (h : OI W b v xs) : W.ownsRow b 3 1 v xs.length (nums .i64 xs) := Kd.own_of_R h
theorem OI_at {W : World} {b g n cap : Nat} {xs : List Int} (h : OI W b (.slice (some ⟨g, 0, none⟩) n cap) xs) (i : Int) (h0 : 0 ≤ i) (h1 : i < n) :
    W.cell? ⟨g, i.toNat, none⟩ = some (.int .i64 (rd xs i)) ∧ W.frozen? ⟨g, i.toNat, none⟩ = false := by
  have hn := (Kd.R_reads' h).1
  subst hn
  exact own_at (OI_own h) i h0 h1
theorem OI_set {W : World} {b g n cap : Nat} {xs : List Int} (h : OI W b (.slice (some ⟨g, 0, none⟩) n cap) xs) (i x : Int) :
    OI (W.setCell ⟨g, i.toNat, none⟩ (.int .i64 x)) b (.slice (some ⟨g, 0, none⟩) n cap) (xs.set i.toNat x) := by
  have hn := (Kd.R_reads' h).1
  subst hn
  have := (own_store (OI_own h) i x).1
  exact Kd.R_of_own (xs := xs.set i.toNat x) (by rw [List.length_set]; exact this) (fun _ _ => trivial)
theorem OI_block {W : World} {b n cap : Nat} {A : Option Addr} {xs : List Int} (h : OI W b (.slice A n cap) xs) (h0 : 0 < xs.length) : ∃ g, A = some ⟨g, 0, none⟩ ∧ b ≤ g ∧ g < W.heap.size := by
  have hn := (Kd.R_reads' h).1
  subst hn
  obtain ⟨g, c, e, h1, h2⟩ := (OI_own h).form h0
  injection e with e1 _ _
  exact ⟨g, e1, h1, h2⟩
theorem put3 {w : World} {g t : Nat} {a b c x y z : Value} (h : w.heap[g]? = some (.cells #[a, b, c] t (0, 0))) :
    (((w.setCell ⟨g, 0, none⟩ x).setCell ⟨g, 1, none⟩ y).setCell ⟨g, 2, none⟩ z).heap[g]? = some (.cells #[x, y, z] t (0, 0)) :=
  blk_put (blk_put (blk_put h 0 x rfl) 1 y rfl) 2 z rfl
theorem put2 {w : World} {g t : Nat} {a b x y : Value} (h : w.heap[g]? = some (.cells #[a, b] t (0, 0))) :
    ((w.setCell ⟨g, 0, none⟩ x).setCell ⟨g, 1, none⟩ y).heap[g]? = some (.cells #[x, y] t (0, 0)) := blk_put (blk_put h 0 x rfl) 1 y rfl
theorem OI_far {W : World} {b g j n cap gs t : Nat} {cells : Array Value} {xs : List Int} (h : OI W b (.slice (some ⟨gs, 0, none⟩) n cap) xs) (hb : W.heap[g]? = some (.cells cells t (0, 0))) (ht : 3 ≠ t) (u : Value) :
    OI (W.setCell ⟨g, j, none⟩ u) b (.slice (some ⟨gs, 0, none⟩) n cap) xs :=
  Kd.R_set h hb (by intro q hq; simp [I, Kd.int, Kd.scalar] at hq; subst hq; exact ht) j u
/-- What a call leaves below B: a row of the call's own there. -/
theorem OI_low {w w1 : World} {b B g n c : Nat} {xs : List Int} (h : OI w b (.slice (some ⟨g, 0, none⟩) n c) xs) (hb : Below B w w1) (hg : g < B) : OI w1 b (.slice (some ⟨g, 0, none⟩) n c) xs := by
  have hn := (Kd.R_reads' h).1
  subst hn
  have h1 : Kd.R I 3 w b (fun k => k = g) (.slice (some ⟨g, 0, none⟩) xs.length c) xs := Kd.R_of_own (OI_own h) (fun k hk => by simp [Value.ownBlock] at hk; exact hk.symm)
  exact Kd.R_mono (Kd.R_step h1 (fun k hk _ => by rw [hk]; exact hb.block g hg)) (fun _ _ => trivial)
theorem blk_low {w w1 : World} {B g : Nat} {o : Obj} (h : w.heap[g]? = some o) (hb : Below B w w1) (hg : g < B) : w1.heap[g]? = some o := by rw [hb.block g hg]; exact h
theorem OI_snoc {w : World} {b : Nat} {v : Value} {xs : List Int} {y : Int} (h : OI w b v (xs ++ [y])) : ∃ ad c, v = .slice (some ad) (xs.length + 1) c ∧ OI w b (.slice (some ad) (xs.length + 1) c) (xs ++ [y]) := by
  obtain ⟨A, c, rfl, _⟩ := OI_shape h
  obtain ⟨ad, rfl⟩ := OI_cons_some h (by simp)
  rw [List.length_append, List.length_singleton] at h ⊢
  exact ⟨ad, c, rfl, h⟩
theorem OI_C {w : World} {b n c : Nat} {A : Option Addr} {xs : List Int} (h : OI w b (.slice A n c) xs) : I.C w A n xs := by
  obtain ⟨h1, _, h2⟩ := Kd.R_reads' h
  rw [h1]; exact h2
theorem lit1 (W : World) (y : Int) : I.C (W.alloc (.cells #[.int .i64 y] 3)) (some ⟨W.heap.size, 0, none⟩) 1 [y] := OI_C (OI_lit W W.heap.size [y] (Nat.le_refl _) (by simp))
/-- append(v, ys...), ints, in a region that draws its order. -/
theorem appRows_step {ops : Array Oper} {o : Oper} {a : Act} {Q : Exit → Act → World → Prop} {Kc : Act → World → Prop} {w0 W : World} {base : Nat} (s x : Operand) (hw : Region.wanted o (yielded ops a.tmps) = true)
    (ho : o.op = .call { callee := .builtin .append, args := #[s, x], argTypes := #[32, 32] }) (v : Value) (xs ys : List Int) (A : Option Addr) (n c : Nat) (hs : a.eval s = v) (hx : a.eval x = .slice A n c)
    (HO : OI W base v xs) (HY : I.C W A n ys) (HB : Below base w0 W) (hbase : base ≤ W.heap.size) (hl : xs.length + n ≤ 1000000000)
    (h : ∀ v1 w1, OI w1 base v1 (xs ++ ys) → Below base w0 w1 → W.grownBy w1 v.ownBlock → Kc (a.put o.dst v1) w1) :
    if Region.wanted o (yielded ops a.tmps) = true then Oper.wp Tryd.prog o a W Kc Q else Kc (a.put o.dst undef) W :=
  Kd.R_append_rows_step I (w0 := w0) base hw s x 32 3 (.int .i64 0) 8 ho Tryd.underlying32 infoI rfl (by decide) (by omega) v xs ys A n c T (fun _ => False) hs hx HO HY (fun _ _ h => h) (fun _ h => h.elim) (fun _ _ => trivial) HB hbase (by omega)
    fun v1 w1 h1 h2 h3 _ => h v1 w1 h1 h2 h3
theorem eqn_some (w : World) (ad : Addr) (n c : Nat) : (binOp .eql 32 (.slice (some ad) n c) (.slice none 0 0)).run Tryd.prog w = .ok (.bool false) w := Lib.run_eql_slice_nil w _ 3 (some ad) n c 0 0 Tryd.underlying32
theorem eqn_none (w : World) : (binOp .eql 32 (.slice none 0 0) (.slice none 0 0)).run Tryd.prog w = .ok (.bool true) w := Lib.run_eql_slice_nil w _ 3 none 0 0 0 0 Tryd.underlying32
theorem nen_some (w : World) (ad : Addr) (n c : Nat) : (binOp .neq 32 (.slice (some ad) n c) (.slice none 0 0)).run Tryd.prog w = .ok (.bool true) w := run_neq_slice_nil_any w _ 3 (some ad) n c 0 0 Tryd.underlying32
theorem nen_none (w : World) : (binOp .neq 32 (.slice none 0 0) (.slice none 0 0)).run Tryd.prog w = .ok (.bool false) w := run_neq_slice_nil_any w _ 3 none 0 0 0 0 Tryd.underlying32
theorem Kd_C_nil (w : World) (A : Option Addr) : I.C w A 0 [] := ⟨rfl, by omega, fun h => by omega⟩
/-- A slice that is nil, or not nil and of the call's own. -/
def OptI (w : World) (b : Nat) (v : Value) : Option (List Int) → Prop
  | none => v = .slice none 0 0
  | some xs => OI w b v xs ∧ ∃ ad n c, v = .slice (some ad) n c
theorem rd_set (l : List Int) (i j : Nat) (x : Int) (h : i < l.length) : rd (l.set i x) j = if j = i then x else rd l j := by
  unfold rd
  rw [List.getD_eq_getElem?_getD, List.getD_eq_getElem?_getD, List.getElem?_set, Int.toNat_natCast]
  by_cases e : j = i
  · subst e; simp [h]
  · rw [if_neg (fun h => e h.symm), if_neg e]
/-- Nil, or not nil and reading as o. -/
def OptR (w : World) (v : Value) : Option (List Int) → Prop
  | none => v = .slice none 0 0
  | some xs => ∃ ad c, v = .slice (some ad) xs.length c ∧ I.C w (some ad) xs.length xs
theorem ret_tb {v : Value} {a b : Bool} (h : a = b) : Ending.returned (.tuple #[v, .bool a]) = .returned (.tuple #[v, .bool b]) := by rw [h]
theorem box3a {w w1 : World} {a b c : Value} {g t : Nat} (h : w.heap[g]? = some (.cells #[a, b, c] t (0, 0))) (hb : Below w.heap.size w w1) :
    w1.cell? ⟨g, 0, none⟩ = some a ∧ w1.cell? ⟨g, 1, none⟩ = some b ∧ w1.cell? ⟨g, 2, none⟩ = some c := box3 (blk_below h hb)
/-- What is read in w stays where all blocks but one without cells stay. -/
theorem C_but {w : World} {A : Option Addr} {n g t : Nat} {xs : List Int} (h : I.C w A n xs) (hg : w.heap[g]? = some (.cells #[] t (0, 0))) : ∀ W, KeepBut w W g none → I.C W A n xs := by
  intro W hk
  refine Kd.C_keep (0 : Int) h hk (fun ad e hn hb => ?_)
  subst e
  obtain ⟨ad', c, e, _, _, hc⟩ := Kd.C_get h (0 : Int) 0 (by omega) (by omega)
  injection e with e
  subst e
  have hl := h.1
  rename_i hK
  rw [show c = [Value.int .i64 (xs.getD (0 : Int).toNat 0)] from hK] at hc
  have h2 := hc 0 _ rfl
  have h3 : w.cell? (ad.add ((0 : Int).toNat * I.sz + 0)) = none := by
    rw [show ad.add ((0 : Int).toNat * I.sz + 0) = ad from rfl]
    unfold World.cell?
    rw [hb, hg]
    simp
  rw [h3] at h2
  cases h2
/-- The blocks that are kept, over a call and over an append to the list. -/
theorem keep_below {w W W1 : World} {g : Nat} (h : KeepBut w W g none) (hb : Below W.heap.size W W1) : KeepBut w W1 g none := h.trans (KeepBut.of_below hb g none) (.inl rfl)
theorem keep_grown {w W W1 : World} {g : Nat} {row : Option Nat} (h : KeepBut w W g none) (hg : W.grownBy W1 row) (hr : row = none ∨ row = some g ∨ ∃ b, row = some b ∧ w.heap.size ≤ b) : KeepBut w W1 g none :=
  ⟨Nat.le_trans h.1 hg.size, fun i hi hne _ => (hg.block i (Nat.lt_of_lt_of_le hi h.1) (fun e => by
    rcases hr with e1 | e1 | ⟨b, e1, hb⟩
    · rw [e1] at e; cases e
    · rw [e1] at e; injection e with e; exact hne e
    · rw [e1] at e; injection e with e; omega)).trans (h.2 i hi hne (by simp))⟩
theorem own_next {v v1 : Value} {g N M : Nat} (h : v.ownBlock = none ∨ v.ownBlock = some g ∨ ∃ b, v.ownBlock = some b ∧ N ≤ b) (h1 : v1.ownBlock = v.ownBlock ∨ ∃ b, v1.ownBlock = some b ∧ M ≤ b) (hm : N ≤ M) :
    v1.ownBlock = none ∨ v1.ownBlock = some g ∨ ∃ b, v1.ownBlock = some b ∧ N ≤ b := by
  rcases h1 with h1 | ⟨b, h1, h2⟩
  · rw [h1]; exact h
  · exact .inr (.inr ⟨b, h1, by omega⟩)
theorem own_ne {v : Value} {g N k : Nat} (h : v.ownBlock = none ∨ v.ownBlock = some g ∨ ∃ b, v.ownBlock = some b ∧ N ≤ b) (h1 : k < g) (h2 : k < N) : some k ≠ v.ownBlock := by
  rcases h with h | h | ⟨b, h, h3⟩ <;> rw [h] <;> intro e
  · cases e
  · injection e with e; omega
  · injection e with e; omega
theorem cell_lt {w w1 : World} {a : Addr} {v : Value} (hb : Below w.heap.size w w1) (h : w.cell? a = some v) : w1.cell? a = some v := (hb.cell (World.block_lt_of_cell? w _ h)).trans h
theorem OI_farv {W : World} {b g j t : Nat} {v : Value} {cells : Array Value} {xs : List Int} (h : OI W b v xs) (hb : W.heap[g]? = some (.cells cells t (0, 0))) (ht : 3 ≠ t) (u : Value) : OI (W.setCell ⟨g, j, none⟩ u) b v xs :=
  Kd.R_set h hb (by intro q hq; simp [I, Kd.int, Kd.scalar] at hq; subst hq; exact ht) j u
theorem size_alloc_le (W : World) (o : Obj) : W.heap.size ≤ (W.alloc o).heap.size := by show W.heap.size ≤ (W.heap.push _).size; rw [Array.size_push]; omega
theorem C_cell {w : World} {ad : Addr} {n : Nat} {xs : List Int} (h : I.C w (some ad) n xs) {j : Nat} {x : Int} (hj : j < n) (e : rd xs j = x) : w.cell? (ad.add j) = some (.int .i64 x) := by
  obtain ⟨ad', e', hc⟩ := Kd.at_int h j (by omega) (by omega)
  injection e' with e'
  subst e'
  rw [Int.toNat_natCast] at hc
  rw [← e]; exact hc
end Go.Proofs.YtgffgmfjoepjoaaDoor.M
