/- The nearest order of a kind. -/
import Derived.Test.YtgffgmfjoepjoaaDoorN0
import Derived.Test.YtgffgmfjoepjoaaDoorQ0
set_option linter.unusedVariables false
set_option linter.unusedSimpArgs false
namespace Go.Proofs.YtgffgmfjoepjoaaDoor.M
open Go.RowKit Go.Proofs.YtgffgmfjoepjoaaDoorW.PrintWords
def nrStep (o : List Int) (b : Ord × Int) (x : Ord) : Ord × Int := if b.2 < 0 ∨ apF o x.2 < b.2 then (x, apF o x.2) else b
def nrTo (o : List Int) (L : List Ord) (k : Nat) : Ord × Int := (L.take k).foldl (nrStep o) (zO, -1)
theorem nrTo_succ {o : List Int} {L : List Ord} {k : Nat} (h : k < L.length) : nrTo o L (k + 1) = nrStep o (nrTo o L k) (rdO L k) := by
  rw [nrTo, List.take_succ_eq_append_getElem h, List.foldl_append]
  simp [nrTo, rdO, h]
theorem nrTo_yes {o : List Int} {L : List Ord} {k : Nat} (h : k < L.length) (hc : (nrTo o L k).2 < 0 ∨ apF o (rdO L k).2 < (nrTo o L k).2) : nrTo o L (k + 1) = (rdO L k, apF o (rdO L k).2) := by rw [nrTo_succ h, nrStep, if_pos hc]
theorem nrTo_no {o : List Int} {L : List Ord} {k : Nat} (h : k < L.length) (h1 : ¬ (nrTo o L k).2 < 0) (h2 : ¬ apF o (rdO L k).2 < (nrTo o L k).2) : nrTo o L (k + 1) = nrTo o L k := by rw [nrTo_succ h, nrStep, if_neg (by simp only [not_or]; exact ⟨h1, h2⟩)]
def okN (s kind : Int) (l : List Int) : Bool := relB s l && okC s kind
def nrF (s kind : Int) (l : List Int) : Ord × Int := if okN s kind l then nrTo l (ordsF s kind) (ordsF s kind).length else (zO, 0)
theorem okN_open {s kind : Int} {l : List Int} (h : okN s kind l = true) : s = l.length ∧ V4 l ∧ l.length ≤ 4 ∧ ordsF s kind = ords l.length kind l.length [] ∧ relB s l = true ∧ okC s kind = true := by
  rw [okN, Bool.and_eq_true] at h
  obtain ⟨h1, h2⟩ := rel_VO h.1
  obtain ⟨k, h3, h4, h5⟩ := okC_nat h.2
  have h6 : k = l.length := by rw [h1] at h3; exact_mod_cast h3.symm
  subst h6
  exact ⟨h1, h2.v4 h4, h4, h5, h.1, h.2⟩
theorem okN_no {s kind : Int} {l : List Int} (h : okN s kind l = false) : nrF s kind l = (zO, 0) := by rw [nrF, h]; rfl
theorem okN_yes {s kind : Int} {l : List Int} (h : okN s kind l = true) : nrF s kind l = nrTo l (ordsF s kind) (ordsF s kind).length := by rw [nrF, h]; rfl
theorem nrTo_each {l : List Int} {L : List Ord} (h4 : V4 l) (hL : ∀ x ∈ L, V4 x.2 ∧ x.2.length = l.length) : ∀ k, k ≤ L.length → -1 ≤ (nrTo l L k).2 ∧ (nrTo l L k).2 ≤ 16
  | 0, _ => by simp [nrTo]
  | k + 1, hk => by
    have ih := nrTo_each h4 hL k (by omega)
    have hx := hL (rdO L k) (by simp [rdO, show k < L.length by omega])
    have hr := apTo_range h4 hx.1 hx.2 l.length (Nat.le_refl _)
    have h4' := h4.l4
    rw [nrTo_succ (by omega), nrStep]
    split
    · simp only [apF]; omega
    · exact ih
/-- Element j of a list of orders of one's own. -/
theorem RO_elem {w : World} {base g n cap : Nat} {ok : Nat → Prop} {L : List Ord} (h : Kd.R kO 34 w base ok (.slice (some ⟨g, 0, none⟩) n cap) L) (j : Nat) (hj : j < n) :
    ∃ A c, w.cell? ⟨g, j * 2, none⟩ = some (.int .i64 (rdO L j).1) ∧ w.cell? ⟨g, j * 2 + 1, none⟩ = some (.slice A (rdO L j).2.length c) ∧ OI w base (.slice A (rdO L j).2.length c) (rdO L j).2 := by
  obtain ⟨c, _, hM, hcc, _⟩ := Kd.R_elem h zO (j : Int) (by omega) (by omega)
  rw [Int.toNat_natCast] at hM hcc
  obtain ⟨v, rfl, hv⟩ := kO_openM hM
  have ho : OI w base v (rdO L j).2 := Kd.R_mono hv (fun _ _ => trivial)
  obtain ⟨A, c, rfl, _⟩ := OI_shape ho
  exact ⟨A, c, hcc 0 _ rfl, hcc 1 _ rfl, ho⟩
/-- What stands behind k rounds. -/
structure Nr (l : List Int) (L : List Ord) (w0 w : World) (s : Int) (b1 b4 g b7 : Nat) (k : Nat) (v : Value) (A0 : Nat) (Ax : Option Addr) : Prop where
  res : w.heap[b4]? = some (.cells #[.int .i64 0, .slice none 0 0] 34 (0, 0))
  box : w.heap[b1]? = some (.cells #[.int .i64 s, .slice Ax l.length A0] 34 (0, 0))
  best : ∃ A1 c1, w.heap[b7]? = some (.cells #[.int .i64 (nrTo l L k).1.1, .slice A1 (nrTo l L k).1.2.length c1] 34 (0, 0)) ∧ OI w w0.heap.size (.slice A1 (nrTo l L k).1.2.length c1) (nrTo l L k).1.2
  list : Kd.R kO 34 w g (fun k => T k ∧ k ≠ b7) v L
  be : Below w0.heap.size w0 w
theorem Nr.below {l : List Int} {L : List Ord} {w0 w w1 : World} {s : Int} {b1 b4 g b7 k : Nat} {v : Value} {A0 : Nat} {Ax : Option Addr} (h : Nr l L w0 w s b1 b4 g b7 k v A0 Ax) (hb : Below w.heap.size w w1) : Nr l L w0 w1 s b1 b4 g b7 k v A0 Ax :=
  ⟨blk_below h.res hb, blk_below h.box hb, by obtain ⟨A1, c1, h1, h2⟩ := h.best; exact ⟨A1, c1, blk_below h1 hb, Kd.R_below h2 hb⟩, Kd.R_below h.list hb, below_step h.be hb⟩
/-- A better one is kept. -/
theorem Nr.put {l : List Int} {L : List Ord} {w0 w : World} {s : Int} {b1 b4 g b7 k : Nat} {v : Value} {A0 : Nat} {Ax : Option Addr} (h : Nr l L w0 w s b1 b4 g b7 k v A0 Ax) (h7 : w0.heap.size ≤ b7) (h17 : b1 ≠ b7) (h47 : b4 ≠ b7) {A2 : Option Addr} {c2 m : Nat} {x : Ord} {y : Int} (hm : x.2.length = m) (ho : OI w w0.heap.size (.slice A2 m c2) x.2) (hx : nrTo l L (k + 1) = (x, y)) :
    Nr l L w0 ((w.setCell ⟨b7, 0, none⟩ (.int .i64 x.1)).setCell ⟨b7, 1, none⟩ (.slice A2 m c2)) s b1 b4 g b7 (k + 1) v A0 Ax := by
  subst hm
  obtain ⟨A1, c1, h1, h2⟩ := h.best
  refine ⟨blk_set2 h.res h47, blk_set2 h.box h17, ⟨A2, c2, ?_, ?_⟩, Kd.R_far (Kd.R_far h.list (fun k hk => hk.2) _) (fun k hk => hk.2) _, (h.be.setCell h7 _).setCell h7 _⟩
  · rw [hx]; exact put2 h1
  · rw [hx]; exact OI_farv (OI_farv ho h1 (by decide) _) (blk_put h1 0 _ rfl) (by decide) _
theorem Nr.same {l : List Int} {L : List Ord} {w0 w : World} {s : Int} {b1 b4 g b7 k : Nat} {v : Value} {A0 : Nat} {Ax : Option Addr} (h : Nr l L w0 w s b1 b4 g b7 k v A0 Ax) (hx : nrTo l L (k + 1) = nrTo l L k) : Nr l L w0 w s b1 b4 g b7 (k + 1) v A0 Ax :=
  ⟨h.res, h.box, by rw [hx]; exact h.best, h.list, h.be⟩
end Go.Proofs.YtgffgmfjoepjoaaDoor.M
