/- The meet of biorders: what is returned; appending a table to a list of tables. -/
import Derived.Test.YtgddmgcneefeeaaTF
import Derived.Test.YtgddmgcneefeeaaL4
set_option linter.unusedVariables false
set_option linter.unusedSimpArgs false
namespace Go.Proofs.Ytgddmgcneefeeaa.M
open Go.RowKit Go.Proofs.YtgddmgcneefeeaaW.PrintWords
theorem infoT : (Try.prog.info? 29).map (fun i => (i.zero, i.size, i.bytes)) = some (some (.agg #[.int .i64 0, .int .i64 0, .slice none 0 0]), 3, 40) := by kernel_rfl
theorem ST_empty {W : World} {base g : Nat} (hg : W.heap.size = g) (hb : base ≤ W.heap.size) : ST (W.alloc (.cells #[] 29)) base (.slice (some ⟨g, 0, none⟩) 0 0) [] := by
  subst hg
  exact ⟨fun _ => 0, fun _ _ => trivial, OwnRow.lit (ps := []) (inner := []) W base (Reps.none _ _) hb (by simp)⟩
theorem ST_nil (W : World) (base : Nat) : ST W base (.slice none 0 0) [] := Kd.S_nil _ _ _ _ _
/-- Behind a call that makes u: the list's blocks are none of u's. -/
theorem ST_elder {W w1 : World} {base : Nat} {v u : Value} {ts : List Tab} {xs : List Int} (h : ST W base v ts) (hu : OI w1 W.heap.size u xs) (hb : Below W.heap.size W w1) :
    Kd.S kT 29 w1 base (fun k => T k ∧ some k ≠ u.ownBlock) v ts := Kd.S_elder' h (Kd.R_base hu) hb
theorem appST_aux {W : World} {base : Nat} {v u : Value} {ts : List Tab} {xs : List Int} (HO : OI W base u xs) (HS : Kd.S kT 29 W base (fun k => T k ∧ some k ≠ u.ownBlock) v ts) :
    Kd.S kT 29 W base (fun k => T k ∧ ¬ (some k = u.ownBlock)) v ts ∧ (∀ k, some k = u.ownBlock → T k ∧ some k ≠ v.ownBlock) := by
  refine ⟨HS, fun k hk => ⟨trivial, fun e => ?_⟩⟩
  obtain ⟨c1, h1⟩ := Kd.S_typed HS k e.symm
  obtain ⟨c2, h2⟩ := Kd.R_typed HO k hk.symm
  rw [h1] at h2
  injection h2 with h2
  injection h2 with _ h2 _
  exact absurd h2 (by decide)
theorem appST {ops : Array Oper} {rest : List Oper} {o : Oper} {a : Act} {Q : Exit → Act → World → Prop} {w0 W : World} {base : Nat} (s x : Operand) (hgd : o.guard = none)
    (ho : o.op = .call { callee := .builtin .append, args := #[s, x], argTypes := #[26, 26] }) (v u : Value) (ts : List Tab) (r c : Int) (xs : List Int) (hs : a.eval s = v) (hx : a.eval x = .slice (some ⟨W.heap.size, 0, none⟩) 1 1)
    (HO : OI W base u xs) (HS : Kd.S kT 29 W base (fun k => T k ∧ some k ≠ u.ownBlock) v ts) (HB : Below base w0 W) (hbase : base ≤ W.heap.size) (hl : ts.length ≤ 1000000000)
    (h : ∀ v1 w1, ST w1 base v1 (ts ++ [(r, c, xs)]) → Below base w0 w1 → W.grownBy w1 v.ownBlock → (v1.ownBlock = v.ownBlock ∨ ∃ b, v1.ownBlock = some b ∧ W.heap.size ≤ b) → wpList Try.prog ops Q rest (a.put o.dst v1) w1) :
    wpList Try.prog ops Q (o :: rest) a (W.alloc (.cells #[.int .i64 r, .int .i64 c, u] 29)) :=
  Kd.S_append kT (w0 := w0) base hgd s x 26 29 _ 40 ho Try.underlying26 infoT rfl (by decide) (by omega) v ts (r, c, xs) [.int .i64 r, .int .i64 c, u] T (fun k => some k = u.ownBlock) hs hx
    (kT_mkM (r, c, xs) (Kd.R_tight rfl HO)) (appST_aux HO HS).2 (fun _ _ => trivial) (appST_aux HO HS).1 HB hbase (by omega) h
theorem appST_step {ops : Array Oper} {o : Oper} {a : Act} {Q : Exit → Act → World → Prop} {Kc : Act → World → Prop} {w0 W : World} {base : Nat} (s x : Operand) (hw : Region.wanted o (yielded ops a.tmps) = true)
    (ho : o.op = .call { callee := .builtin .append, args := #[s, x], argTypes := #[26, 26] }) (v u : Value) (ts : List Tab) (r c : Int) (xs : List Int) (hs : a.eval s = v) (hx : a.eval x = .slice (some ⟨W.heap.size, 0, none⟩) 1 1)
    (HO : OI W base u xs) (HS : Kd.S kT 29 W base (fun k => T k ∧ some k ≠ u.ownBlock) v ts) (HB : Below base w0 W) (hbase : base ≤ W.heap.size) (hl : ts.length ≤ 1000000000)
    (h : ∀ v1 w1, ST w1 base v1 (ts ++ [(r, c, xs)]) → Below base w0 w1 → W.grownBy w1 v.ownBlock → (v1.ownBlock = v.ownBlock ∨ ∃ b, v1.ownBlock = some b ∧ W.heap.size ≤ b) → Kc (a.put o.dst v1) w1) :
    if Region.wanted o (yielded ops a.tmps) = true then Oper.wp Try.prog o a (W.alloc (.cells #[.int .i64 r, .int .i64 c, u] 29)) Kc Q else Kc (a.put o.dst undef) (W.alloc (.cells #[.int .i64 r, .int .i64 c, u] 29)) :=
  Kd.S_append_step kT (w0 := w0) base hw s x 26 29 _ 40 ho Try.underlying26 infoT rfl (by decide) (by omega) v ts (r, c, xs) [.int .i64 r, .int .i64 c, u] T (fun k => some k = u.ownBlock) hs hx
    (kT_mkM (r, c, xs) (Kd.R_tight rfl HO)) (appST_aux HO HS).2 (fun _ _ => trivial) (appST_aux HO HS).1 HB hbase (by omega) h
/-- What is read in w stays where all blocks but one without cells stay. -/
theorem C_but {w : World} {A : Option Addr} {n g t : Nat} {xs : List Int} (h : I.C w A n xs) (hg : w.heap[g]? = some (.cells #[] t (0, 0))) : ∀ W, KeepBut w W g none → I.C W A n xs := by
  intro W hk
  refine Kd.C_keep (0 : Int) h hk (fun ad e hn hb => ?_)
  subst e
  obtain ⟨ad', c, e, _, _, hc⟩ := Kd.C_get h (0 : Int) 0 (by omega) (by omega)
  injection e with e
  subst e
  have hl := h.1
  rename_i hK
  rw [show c = [Value.int .i64 (xs.getD (0 : Int).toNat 0)] from hK] at hc
  have h2 := hc 0 _ rfl
  have h3 : w.cell? (ad.add ((0 : Int).toNat * I.sz + 0)) = none := by
    rw [show ad.add ((0 : Int).toNat * I.sz + 0) = ad from rfl]
    unfold World.cell?
    rw [hb, hg]
    simp
  rw [h3] at h2
  cases h2
/-- The blocks that are kept, over a call and over an append to the list. -/
theorem keep_below {w W W1 : World} {g : Nat} (h : KeepBut w W g none) (hb : Below W.heap.size W W1) : KeepBut w W1 g none := h.trans (KeepBut.of_below hb g none) (.inl rfl)
theorem keep_grown {w W W1 : World} {g : Nat} {row : Option Nat} (h : KeepBut w W g none) (hg : W.grownBy W1 row) (hr : row = none ∨ row = some g ∨ ∃ b, row = some b ∧ w.heap.size ≤ b) : KeepBut w W1 g none :=
  ⟨Nat.le_trans h.1 hg.size, fun i hi hne _ => (hg.block i (Nat.lt_of_lt_of_le hi h.1) (fun e => by
    rcases hr with e1 | e1 | ⟨b, e1, hb⟩
    · rw [e1] at e; cases e
    · rw [e1] at e; injection e with e; exact hne e
    · rw [e1] at e; injection e with e; omega)).trans (h.2 i hi hne (by simp))⟩
theorem own_next {v v1 : Value} {g N M : Nat} (h : v.ownBlock = none ∨ v.ownBlock = some g ∨ ∃ b, v.ownBlock = some b ∧ N ≤ b) (h1 : v1.ownBlock = v.ownBlock ∨ ∃ b, v1.ownBlock = some b ∧ M ≤ b) (hm : N ≤ M) :
    v1.ownBlock = none ∨ v1.ownBlock = some g ∨ ∃ b, v1.ownBlock = some b ∧ N ≤ b := by
  rcases h1 with h1 | ⟨b, h1, h2⟩
  · rw [h1]; exact h
  · exact .inr (.inr ⟨b, h1, by omega⟩)
theorem own_ne {v : Value} {g N k : Nat} (h : v.ownBlock = none ∨ v.ownBlock = some g ∨ ∃ b, v.ownBlock = some b ∧ N ≤ b) (h1 : k < g) (h2 : k < N) : some k ≠ v.ownBlock := by
  rcases h with h | h | ⟨b, h, h3⟩ <;> rw [h] <;> intro e
  · cases e
  · injection e with e; omega
  · injection e with e; omega
theorem findS_ok {m : List Int} {C : Int} {cells : List Int} {many : Nat} : ∀ d xs o, findS m C cells many d xs = some o → ∀ g : Nat, g < many → okPart m C cells o g = true
  | 0, xs, o, h, g, hg => by
    rw [findS] at h
    split at h
    · rename_i h1
      injection h with h
      subst h
      rw [List.all_eq_true] at h1
      exact h1 g (by simpa using hg)
    · cases h
  | d + 1, xs, o, h, g, hg => by
    rw [findS] at h
    split at h
    · rcases scan_eq (f := fun g => findS m C cells many d (xs ++ [(g : Int)])) many 0 with ⟨h1, _⟩ | ⟨k, o', _, _, h2, h3⟩
      · rw [h1] at h; cases h
      · rw [h3] at h
        injection h with h
        subst h
        exact findS_ok d _ _ h2 g hg
    · cases h
theorem splitF_ok {c : Nat} {m : List Int} {many : Nat} {o : List Int} (h : splitF c m many = some o) : o.length = (emp c m).length ∧ ∀ g : Nat, g < many → okPart m c (emp c m) o g = true := by
  refine ⟨?_, fun g hg => ?_⟩
  · have := findF_len _ _ _ h
    simpa using this
  · rw [splitF, ← findS_start] at h
    exact findS_ok _ _ _ h g hg
theorem leastF_has {c : Nat} {m : List Int} (h : 0 < leastF c m) : ∃ g : Nat, leastF c m = g ∧ 1 ≤ g ∧ g ≤ 4 ∧ ∃ o, splitF c m g = some o := by
  rw [leastF] at h
  split at h
  · omega
  · rename_i h1
    rcases nx_range (hasSplit c m) 4 1 with h2 | ⟨h2, h3, h4⟩
    · omega
    · refine ⟨(nx (hasSplit c m) 4 1).toNat, ?_, by omega, by omega, ?_⟩
      · rw [leastF, if_neg h1]; omega
      · rw [hasSplit] at h4
        exact Option.isSome_iff_exists.1 h4
/-- The order of the rows for part g of a split. -/
def ordP (c : Nat) (m numbers : List Int) (g : Nat) : List Int := (ord m c (part (emp c m) numbers g)).getD []
def meetT (c : Nat) (m numbers : List Int) (g : Nat) : Tab := (m.length, c, cov m (ordP c m numbers g))
def meetTo (c : Nat) (m numbers : List Int) (g : Nat) : List Tab := (List.range g).map fun g => meetT c m numbers g
theorem meetTo_succ (c : Nat) (m numbers : List Int) (g : Nat) : meetTo c m numbers (g + 1) = meetTo c m numbers g ++ [meetT c m numbers g] := by simp [meetTo, List.range_succ]
theorem meetTo_len (c : Nat) (m numbers : List Int) (g : Nat) : (meetTo c m numbers g).length = g := by simp [meetTo]
def meetL (r c : Int) (m : List Int) : List Tab := meetTo c.toNat m ((splitF c.toNat m (lst r c m).toNat).getD []) (lst r c m).toNat
theorem ordP_ok {c : Nat} {m numbers : List Int} {g : Nat} (h : okPart m c (emp c m) numbers g = true) : ord m c (part (emp c m) numbers g) = some (ordP c m numbers g) ∧ (ordP c m numbers g).length = m.length ∧ ∀ x ∈ ordP c m numbers g, 0 ≤ x ∧ x < m.length := by
  rw [okPart] at h
  obtain ⟨o, h⟩ := Option.isSome_iff_exists.1 h
  have h1 : ordP c m numbers g = o := by rw [ordP, h]; rfl
  rw [h1]
  exact ⟨h, ordTo_some h⟩
theorem cov_len (m order : List Int) : (cov m order).length = m.length := by
  have h : ∀ k, (covTo m order k).2.length = m.length := fun k => by
    induction k with
    | zero => simp [covTo]
    | succ k ih => rw [covTo, List.length_set, ih]
  exact h _
/-- freeOrder of a part that is free. -/
theorem freeOrder_o {c : Nat} {m numbers : List Int} {g : Nat} (hv : VT c m) (h : okPart m c (emp c m) numbers g = true) (hl : numbers.length = (emp c m).length)
    (A A1 : Option Addr) (k n k1 : Nat) (w : World) (hr : I.C w A m.length m) (b1 : Nat) (hr1 : OI w b1 (.slice A1 n k1) (part (emp c m) numbers g)) :
    Calls Try.prog 53 #[.agg #[.int .i64 (m.length : Int), .int .i64 (c : Int), .slice A m.length k], .slice A1 n k1] w fun e w' => ∃ A k, e = .returned (.slice A (ordP c m numbers g).length k) ∧ I.C w' A (ordP c m numbers g).length (ordP c m numbers g) ∧ Below w.heap.size w w' := by
  have hn := (Kd.R_reads' hr1).1
  subst hn
  refine (freeOrder_c c m (part (emp c m) numbers g) hv A A1 k k1 w hr (OI_C hr1) (fun x hx => ?_) (Nat.le_trans (part_len _ _ _) (by have := emp_len hv; omega))).mono ?_
  · have := emp_mem hv (part_mem (by omega) hx)
    exact ⟨this.1, this.2.1, this.2.2.2⟩
  rintro e w' ⟨v, rfl, ho, hb⟩
  rw [(ordP_ok h).1] at ho
  obtain ⟨A', k', rfl, _, hC⟩ := Kd.R_reads ho.1
  exact ⟨A', k', rfl, hC, hb⟩
/-- feOrder of such a part. -/
theorem feOrder_o {c : Nat} {m numbers : List Int} {g : Nat} (hv : VT c m) (h : okPart m c (emp c m) numbers g = true) (hl : numbers.length = (emp c m).length)
    (A A1 : Option Addr) (k n k1 : Nat) (w : World) (hr : I.C w A m.length m) (b1 : Nat) (hr1 : OI w b1 (.slice A1 n k1) (part (emp c m) numbers g)) :
    Calls Try.prog 47 #[.agg #[.int .i64 (m.length : Int), .int .i64 (c : Int), .slice A m.length k], .slice A1 n k1] w fun e w' => ∃ A k, e = .returned (.tuple #[.slice A (ordP c m numbers g).length k, .bool true]) ∧ I.C w' A (ordP c m numbers g).length (ordP c m numbers g) ∧ Below w.heap.size w w' := by
  have hn := (Kd.R_reads' hr1).1
  subst hn
  refine (feOrder_c c m (part (emp c m) numbers g) hv A A1 k k1 w hr (OI_C hr1) (fun x hx => ?_) (Nat.le_trans (part_len _ _ _) (by have := emp_len hv; omega))).mono ?_
  · have := emp_mem hv (part_mem (by omega) hx)
    exact ⟨this.1, this.2.1⟩
  rintro e w' ⟨v, rfl, ho, hb⟩
  rw [(ordP_ok h).1] at ho ⊢
  obtain ⟨A', k', rfl, _, hC⟩ := Kd.R_reads ho
  exact ⟨A', k', rfl, hC, hb⟩
end Go.Proofs.Ytgddmgcneefeeaa.M
