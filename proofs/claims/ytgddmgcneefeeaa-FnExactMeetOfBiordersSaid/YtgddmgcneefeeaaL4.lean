/- Lists of tables: marked. -/
import Derived.Test.YtgddmgcneefeeaaL3
set_option linter.unusedVariables false
set_option linter.unusedSimpArgs false
namespace Go.Proofs.Ytgddmgcneefeeaa.M
open Go.RowKit Go.Proofs.YtgddmgcneefeeaaW.PrintWords
def mkN : List Tab → Nat
  | [] => 0
  | t :: ts => 2 + t.2.2.length + mkN ts
def mkL : Int → List Tab → List Tab
  | _, [] => []
  | n, t :: ts => (n, n + 1, cnt (n + 2) t.2.2.length) :: mkL (n + (2 + t.2.2.length : Nat)) ts
theorem mkN_snoc (x : Tab) : ∀ ts, mkN (ts ++ [x]) = mkN ts + (2 + x.2.2.length)
  | [] => by simp [mkN]
  | t :: ts => by rw [List.cons_append, mkN, mkN, mkN_snoc x ts]; omega
theorem mkL_snoc (x : Tab) : ∀ ts (n : Int), mkL n (ts ++ [x]) = mkL n ts ++ [(n + mkN ts, n + mkN ts + 1, cnt (n + mkN ts + 2) x.2.2.length)]
  | [], n => by simp [mkL, mkN]
  | t :: ts, n => by
    rw [List.cons_append, mkL, mkL, mkL_snoc x ts, mkN, List.cons_append]
    congr 3
    all_goals (first | omega | (congr 1; omega) | (congr 2; omega) | skip)
    rw [show n + ((2 + t.2.2.length : Nat) : Int) + (mkN ts : Int) = n + ((2 + t.2.2.length + mkN ts : Nat) : Int) by omega]
theorem mkL_len : ∀ ts (n : Int), (mkL n ts).length = ts.length
  | [], _ => rfl
  | t :: ts, n => by rw [mkL, List.length_cons, List.length_cons, mkL_len ts]
theorem mkN_take {ts : List Tab} : ∀ j, mkN (ts.take j) ≤ mkN ts := by
  induction ts with
  | nil => intro j; simp
  | cons t ts ih =>
    intro j
    cases j with
    | zero => simp [mkN]
    | succ j => rw [List.take_succ_cons, mkN, mkN]; have := ih j; omega
theorem takeT_snoc {ts : List Tab} {j : Nat} (h : j < ts.length) : ts.take (j + 1) = ts.take j ++ [rdT ts j] := by
  rw [List.take_succ_eq_append_getElem h]
  simp [rdT, h]
theorem mkL_set {ts : List Tab} {n : Int} {j : Nat} (h : j < ts.length) :
    (mkL n (ts.take j) ++ ts.drop j).set j (n + mkN (ts.take j), n + mkN (ts.take j) + 1, cnt (n + mkN (ts.take j) + 2) (rdT ts j).2.2.length) = mkL n (ts.take (j + 1)) ++ ts.drop (j + 1) := by
  have hl : (mkL n (ts.take j)).length = j := by rw [mkL_len, List.length_take]; omega
  rw [List.set_append_right _ _ (by omega), hl, Nat.sub_self, List.drop_eq_getElem_cons h, List.set_cons_zero, takeT_snoc h, mkL_snoc, List.append_assoc]
  rfl
theorem mkL_rd {ts : List Tab} {n : Int} {j : Nat} (h : j < ts.length) : rdT (mkL n (ts.take j) ++ ts.drop j) j = rdT ts j := by
  have hl : (mkL n (ts.take j)).length = j := by rw [mkL_len, List.length_take]; omega
  simp only [rdT, List.getD_eq_getElem?_getD]
  rw [List.getElem?_append_right (by omega), hl, Nat.sub_self, List.getElem?_drop, Nat.add_zero]
abbrev ST (w : World) (base : Nat) (v : Value) (ts : List Tab) : Prop := Kd.S kT 29 w base T v ts
open Classical in
theorem ST_mark {w : World} {base g n cap : Nat} {ts : List Tab} (h : ST w base (.slice (some ⟨g, 0, none⟩) n cap) ts) (j : Nat) (hj : j < n) :
    ∃ v, w.cell? ⟨g, j * 3, none⟩ = some (.int .i64 (rdT ts j).1) ∧ w.cell? ⟨g, j * 3 + 1, none⟩ = some (.int .i64 (rdT ts j).2.1) ∧ w.cell? ⟨g, j * 3 + 2, none⟩ = some v ∧ OI w base v (rdT ts j).2.2 ∧ base ≤ g ∧
      (∀ x y w1 ys, ((w.setCell ⟨g, j * 3, none⟩ (.int .i64 x)).setCell ⟨g, j * 3 + 1, none⟩ (.int .i64 y)).grownBy w1 v.ownBlock → OI w1 base v ys → ST w1 base (.slice (some ⟨g, 0, none⟩) n cap) (ts.set j (x, y, ys))) := by
  have hgb := Kd.S_base h g rfl
  obtain ⟨oki, c, hcl, hM, hcc, hfr, hoki, hH⟩ := Kd.S_elem h zT (j : Int) (by omega) (by omega)
  rw [Int.toNat_natCast] at hM hcc hfr
  obtain ⟨v, rfl, hv⟩ := kT_openM hM
  refine ⟨v, hcc 0 _ rfl, hcc 1 _ rfl, hcc 2 _ rfl, Kd.R_mono hv (fun _ _ => trivial), hgb, fun x y w1 ys hg ho => ?_⟩
  have hg0 := fun k hk => (hoki k hk).2
  obtain ⟨h1, h2⟩ := Kd.H_seg hH (by omega) (by omega) (seg := [.int .i64 x, .int .i64 y]) (j := 0) (by show 0 + 2 ≤ 3; omega) (by simp [Value.oneCell'])
  rw [Int.toNat_natCast] at h1 h2
  have h3 := Kd.H_grown (w1 := w1) h1 (row := v.ownBlock) hg (fun k hk => hv.1 k hk)
  have := Kd.H_back h3 (x' := (x, y, ys)) (okp := fun k => some k = v.ownBlock) (kT_mkM (x, y, ys) (Kd.R_tight rfl ho)) (fun k hk => hv.1 k hk.symm)
  rwa [Int.toNat_natCast] at this
end Go.Proofs.Ytgddmgcneefeeaa.M
