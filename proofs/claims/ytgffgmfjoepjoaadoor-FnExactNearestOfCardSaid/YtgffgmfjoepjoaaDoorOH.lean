/- Lists of orders: their cells; the orders of a kind, in order. -/
import Derived.Test.YtgffgmfjoepjoaaDoorOG
import Derived.Test.YtgffgmfjoepjoaaDoorWApart
set_option linter.unusedVariables false
set_option linter.unusedSimpArgs false
namespace Go.Proofs.YtgffgmfjoepjoaaDoor.M
open Go.RowKit Go.Proofs.YtgffgmfjoepjoaaDoorW.PrintWords
abbrev Ord := Int × List Int
def kO : Kd Ord := Kd.pair I (Kd.slice 3 I)
def zO : Ord := (0, [])
theorem kO_open {w : World} {x : Ord} {cs : List Value} (h : kO.K w x cs) : ∃ A c, cs = [.int .i64 x.1, .slice A x.2.length c] ∧ x.2.length ≤ c ∧ I.C w A x.2.length x.2 := by
  obtain ⟨c0, c1, rfl, h0, A, c, rfl, h2, h3⟩ := h
  rw [show c0 = [.int .i64 x.1] from h0]
  exact ⟨A, c, rfl, h2, h3⟩
theorem kO_openM {w : World} {base : Nat} {ok : Nat → Prop} {x : Ord} {cs : List Value} (h : kO.M w base ok x cs) : ∃ v, cs = [.int .i64 x.1, v] ∧ I.R 3 w base ok v x.2 := by
  obtain ⟨c0, c1, rfl, h0, v, rfl, h2⟩ := h
  rw [show c0 = [.int .i64 x.1] from h0]
  exact ⟨v, rfl, h2⟩
theorem kO_mkM {w : World} {base : Nat} {ok : Nat → Prop} (x : Ord) {v : Value} (h : I.R 3 w base ok v x.2) : kO.M w base ok x [.int .i64 x.1, v] := ⟨[.int .i64 x.1], [v], rfl, rfl, v, rfl, h⟩
def rdO (ts : List Ord) (i : Nat) : Ord := ts.getD i zO
theorem at_O {w : World} {A : Option Addr} {n : Nat} {ts : List Ord} (h : Kd.C kO w A n ts) (i : Nat) (h1 : i < n) :
    ∃ ad A' c', A = some ad ∧ w.cell? (ad.add (i * 2)) = some (.int .i64 (rdO ts i).1) ∧ w.cell? ⟨(ad.add (i * 2)).block, (ad.add (i * 2)).off + 1, none⟩ = some (.slice A' (rdO ts i).2.length c') ∧ (rdO ts i).2.length ≤ c' ∧ I.C w A' (rdO ts i).2.length (rdO ts i).2 := by
  obtain ⟨ad, c, e, _, hK, hc⟩ := Kd.C_get h zO i (by omega) (by omega)
  obtain ⟨A', c', rfl, hl, hI⟩ := kO_open hK
  rw [Int.toNat_natCast] at hl hI hc
  exact ⟨ad, A', c', e, hc 0 _ rfl, by rw [← add_field _ _ 1 (by omega)]; exact hc 1 _ rfl, hl, hI⟩
theorem infoO : (Tryd.prog.info? 34).map (fun i => (i.zero, i.size, i.bytes)) = some (some (.agg #[.int .i64 0, .slice none 0 0]), 2, 32) := by kernel_rfl
abbrev RO (w : World) (base : Nat) (v : Value) (ts : List Ord) : Prop := Kd.R kO 34 w base T v ts
theorem RO_nil (w : World) (base : Nat) : RO w base (.slice none 0 0) [] := Kd.R_nil _ _ _ _ _
/-- A literal of one order. -/
theorem RO_one {W : World} {base : Nat} {s : Int} {u : Value} {xs : List Int} (hb : base ≤ W.heap.size) (h : OI W base u xs) :
    RO (W.alloc (.cells #[.int .i64 s, u] 34)) base (.slice (some ⟨W.heap.size, 0, none⟩) 1 1) [(s, xs)] := by
  refine ⟨fun _ _ => trivial, ?_⟩
  have hu := Kd.R_lt h
  have hM : kO.M (W.alloc (.cells #[.int .i64 s, u] 34)) base (fun k => T k ∧ some k ≠ (Value.slice (some ⟨W.heap.size, 0, none⟩) 1 1).ownBlock) (s, xs) [.int .i64 s, u] :=
    kO_mkM (s, xs) (Kd.R_mono (Kd.R_alloc (Kd.R_tight rfl h) _) (fun k hk => ⟨trivial, by simp only [Value.ownBlock]; intro e; injection e with e; have := hu k hk.symm; omega⟩))
  have hr : Reps (kO.M (W.alloc (.cells #[.int .i64 s, u] 34)) base (fun k => T k ∧ some k ≠ (Value.slice (some ⟨W.heap.size, 0, none⟩) 1 1).ownBlock)) 2 [(s, xs)] [.int .i64 s, u] := by
    refine ⟨rfl, fun j p hj => ?_⟩
    cases j with
    | zero => injection hj with hj; subst hj; exact hM
    | succ j => simp at hj
  have hl := OwnRow.lit (R := kO.M (W.alloc (.cells #[.int .i64 s, u] 34)) base (fun k => T k ∧ some k ≠ (Value.slice (some ⟨W.heap.size, 0, none⟩) 1 1).ownBlock)) (e := 34) (size := 2) W base hr hb (by simp)
  exact hl
/-- The orders of a kind that go on a list, d elements being open. -/
def ords (n : Nat) (kind : Int) : Nat → List Int → List Ord
  | 0, xs => if kindB n xs kind then [((n : Int), xs)] else []
  | d + 1, xs => (List.range (2 ^ n)).flatMap fun s : Nat => if has s xs.length then [] else ords n kind d (xs ++ [(s : Int)])
def ordsTo (n : Nat) (kind : Int) (d : Nat) (xs : List Int) (k : Nat) : List Ord := (List.range k).flatMap fun s : Nat => if has s xs.length then [] else ords n kind d (xs ++ [(s : Int)])
theorem ordsTo_yes {n : Nat} {kind : Int} {d : Nat} {xs : List Int} {k : Nat} (h : has k xs.length = true) : ordsTo n kind d xs (k + 1) = ordsTo n kind d xs k := by
  rw [ordsTo, List.range_succ, List.flatMap_append, List.flatMap_singleton, if_pos h, List.append_nil]; rfl
theorem ordsTo_no {n : Nat} {kind : Int} {d : Nat} {xs : List Int} {k : Nat} (h : has k xs.length = false) : ordsTo n kind d xs (k + 1) = ordsTo n kind d xs k ++ ords n kind d (xs ++ [(k : Int)]) := by
  rw [ordsTo, List.range_succ, List.flatMap_append, List.flatMap_singleton, h]; rfl
theorem ords_succ (n : Nat) (kind : Int) (d : Nat) (xs : List Int) : ords n kind (d + 1) xs = ordsTo n kind d xs (2 ^ n) := rfl
theorem ords_len0 {n : Nat} (kind : Int) (d : Nat) (xs : List Int) (h : ∀ xs, (ords n kind d xs).length ≤ 16 ^ d) : ∀ k, (ordsTo n kind d xs k).length ≤ k * 16 ^ d := fun k => by
  induction k with
  | zero => simp [ordsTo]
  | succ k ih =>
    rw [Nat.succ_mul]
    cases hb : has k xs.length
    · rw [ordsTo_no hb, List.length_append]
      exact Nat.add_le_add ih (h (xs ++ [(k : Int)]))
    · rw [ordsTo_yes hb]; exact Nat.le_trans ih (Nat.le_add_right _ _)
theorem ords_len {n : Nat} (hn : n ≤ 4) (kind : Int) : ∀ d xs, (ords n kind d xs).length ≤ 16 ^ d
  | 0, xs => by rw [ords]; split <;> simp
  | d + 1, xs => by
    have hp : 2 ^ n ≤ 16 := by
      have : 2 ^ n ≤ 2 ^ 4 := Nat.pow_le_pow_right (by decide) hn
      omega
    have := ords_len0 kind d xs (ords_len hn kind d)
    rw [ords_succ, Nat.pow_succ, Nat.mul_comm (16 ^ d)]
    exact Nat.le_trans (this _) (Nat.mul_le_mul_right _ hp)
theorem ordsTo_len {n : Nat} (hn : n ≤ 4) (kind : Int) (d : Nat) (xs : List Int) (k : Nat) : (ordsTo n kind d xs k).length ≤ k * 16 ^ d := ords_len0 kind d xs (ords_len hn kind d) k
end Go.Proofs.YtgffgmfjoepjoaaDoor.M
