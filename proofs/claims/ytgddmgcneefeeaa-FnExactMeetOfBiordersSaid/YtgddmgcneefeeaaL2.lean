/- The laws' helpers on tables. -/
import Derived.Test.YtgddmgcneefeeaaL1
set_option linter.unusedVariables false
set_option linter.unusedSimpArgs false
namespace Go.Proofs.Ytgddmgcneefeeaa.M
open Go.RowKit Go.Proofs.YtgddmgcneefeeaaW.PrintWords
theorem OI_farv {W : World} {b g j t : Nat} {v : Value} {cells : Array Value} {xs : List Int} (h : OI W b v xs) (hb : W.heap[g]? = some (.cells cells t (0, 0))) (ht : 3 ≠ t) (u : Value) : OI (W.setCell ⟨g, j, none⟩ u) b v xs :=
  Kd.R_set h hb (by intro q hq; simp [I, Kd.int, Kd.scalar] at hq; subst hq; exact ht) j u
theorem szIntS_b {n : Nat} {a r : Int} (h : szI n a = r) (A : Option Addr) (c : Nat) (w : World) (h0 : 0 ≤ a) (h1 : a ≤ 1000000000) (hl : n ≤ 9223372036854775807) :
    Calls Try.prog 44 #[.slice A n c, .int .i64 a] w fun e w' => e = .returned (.int .i64 r) ∧ w' = w := by
  subst h
  have := szIntS_c (List.replicate n 0) A c a w h0 h1 (by simpa using hl)
  rwa [List.length_replicate] at this
set_option maxHeartbeats 400000 in
theorem szTable_c (r0 c0 : Int) (n : Nat) (A : Option Addr) (c : Nat) (a : Int) (w : World) (h0 : 0 ≤ a) (h1 : a ≤ 1000000000) (hl : n ≤ 9223372036854775807) :
    Calls Try.prog 7 #[.agg #[.int .i64 r0, .int .i64 c0, .slice A n c], .int .i64 a] w fun e w' => e = .returned (.int .i64 (szI n a)) ∧ Below w.heap.size w w' := by
  have hB := Aside0.mk (below_alloc (Below.refl w.heap.size w) (.cells #[.int .i64 r0, .int .i64 c0, .slice A n c] 24))
  obtain ⟨r, hr⟩ : ∃ r, szI n a = r := ⟨_, rfl⟩
  rw [hr]
  have Hr := Aside0.mk hr
  by_cases h : r < 0
  · have hm : r = -1 := by rw [szI] at hr; split at hr <;> omega
    subst hm
    clear hr
    go_enter Try.func7, Try.ntmps7
    go_wp2_with fail
    refine (szIntS_b Hr.out A c _ h0 h1 hl).mono ?_
    rintro e w1 ⟨rfl, rfl⟩
    go_wp2
    go_ret
    exact ⟨rfl, hB.out⟩
  · clear hr
    go_enter Try.func7, Try.ntmps7
    go_wp2_with fail
    refine (szIntS_b Hr.out A c _ h0 h1 hl).mono ?_
    rintro e w1 ⟨rfl, rfl⟩
    go_wp2
    go_ret
    exact ⟨rfl, hB.out⟩
theorem eqIntS_b {xs ys : List Int} {b : Bool} (h : (xs == ys) = b) (A A1 : Option Addr) (c c1 : Nat) (w : World) (hr : I.C w A xs.length xs) (hr1 : I.C w A1 ys.length ys) :
    Calls Try.prog 31 #[.slice A xs.length c, .slice A1 ys.length c1] w fun e w' => e = .returned (.bool b) ∧ Below w.heap.size w w' := by
  subst h
  refine (eqIntS_c xs ys A A1 c c1 w hr hr1).mono ?_
  rintro e w' ⟨rfl, m, rfl⟩
  exact ⟨rfl, pw_below_drewN (Below.refl _ _) m⟩
set_option maxHeartbeats 800000 in
set_option maxRecDepth 100000 in
theorem toTable_c (r0 c0 : Int) (m : List Int) (A : Option Addr) (c : Nat) (w : World) (hr : I.C w A m.length m) (hl : m.length ≤ 1000000000) :
    Calls Try.prog 9 #[.agg #[.int .i64 r0, .int .i64 c0, .slice A m.length c]] w fun e w' => ∃ v, e = .returned (.agg #[.int .i64 r0, .int .i64 c0, v]) ∧ OI w' w.heap.size v m ∧ Below w.heap.size w w' := by
  have HR := Aside0.mk hr
  clear hr
  obtain ⟨X, hX⟩ : ∃ X, X = ((w.alloc (.cells #[.int .i64 r0, .int .i64 c0, .slice A m.length c] 24)).alloc (.cells #[.int .i64 0, .int .i64 0, .slice none 0 0] 29)) := ⟨_, rfl⟩
  have hXs : X.heap.size = w.heap.size + 1 + 1 := by subst hX; simp
  have hBX : Below w.heap.size w X := by subst hX; exact below_alloc (below_alloc (Below.refl _ _) _) _
  have hX1 : X.heap[w.heap.size + 1]? = some (.cells #[.int .i64 0, .int .i64 0, .slice none 0 0] 29 (0, 0)) := by subst hX; exact blk_this (by simp)
  have HB := Aside0.mk (below_alloc hBX (.cells #[.int .i64 r0, .int .i64 c0, .slice none 0 0] 29))
  have HX1 := Aside0.mk (blk_alloc hX1 (.cells #[.int .i64 r0, .int .i64 c0, .slice none 0 0] 29))
  have HX2 := Aside0.mk (blk_this (o := .cells #[.int .i64 r0, .int .i64 c0, .slice none 0 0] 29) hXs)
  subst hX
  clear hXs hBX hX1
  go_enter Try.func9, Try.ntmps9
  go_wp2_with fail
  refine (toIntS_c m A c _ (Kd.C_below HR.out HB.out) hl).mono ?_
  rintro e w1 ⟨v1, rfl, ho, hb⟩
  have HB1 := Aside0.mk (below_step HB.out hb)
  have HX3 := Aside0.mk (blk_below HX1.out hb)
  have HX4 := Aside0.mk (blk_below HX2.out hb)
  have HO := Aside0.mk (Kd.R_lower ho HB.out.size)
  obtain ⟨A6, c6, rfl, _⟩ := OI_shape ho
  clear ho hb HX1 HX2 HB
  obtain ⟨hx0, hx1, hx2⟩ := box3 HX4.out
  have hf2 := blk_frozen HX4.out 2
  have HX5 := Aside0.mk (blk_far HX3.out (p := ⟨w.heap.size + 1 + 1, 2, none⟩) (by show w.heap.size + 1 ≠ w.heap.size + 1 + 1; omega) (.slice A6 m.length c6))
  obtain ⟨hy0, hy1, hy2⟩ := box3 HX3.out
  have hg0 := blk_frozen HX3.out 0
  have hg1 := blk_frozen HX3.out 1
  have hg2 := blk_frozen HX3.out 2
  go_wp2
  refine bodyPost_ret (results_cell_row rfl _ _ (w.heap.size + 1) 29 #[.int .i64 r0, .int .i64 c0, .slice A6 m.length c6] (0, 0) _ rfl (put3 HX5.out) Try.underlying29 rfl (by kernel_rfl)) rfl ⟨_, rfl, ?_, ?_⟩
  · exact OI_farv (OI_farv (OI_farv (OI_farv HO.out HX4.out (by decide) _) HX5.out (by decide) _) (blk_put HX5.out 0 _ rfl) (by decide) _) (blk_put (blk_put HX5.out 0 _ rfl) 1 _ rfl) (by decide) _
  · exact below_set (below_set (below_set (below_set HB1.out (by omega)) (by omega)) (by omega)) (by omega)
def tabEq (r0 c0 : Int) (xs : List Int) (r1 c1 : Int) (ys : List Int) : Bool := r0 == r1 && (c0 == c1 && xs == ys)
set_option maxHeartbeats 800000 in
set_option maxRecDepth 100000 in
theorem eqTable_c (r0 c0 r1 c1 : Int) (xs ys : List Int) (A A1 : Option Addr) (k k1 : Nat) (w : World) (hr : I.C w A xs.length xs) (hr1 : I.C w A1 ys.length ys) :
    Calls Try.prog 12 #[.agg #[.int .i64 r0, .int .i64 c0, .slice A xs.length k], .agg #[.int .i64 r1, .int .i64 c1, .slice A1 ys.length k1]] w fun e w' => e = .returned (.bool (tabEq r0 c0 xs r1 c1 ys)) ∧ Below w.heap.size w w' := by
  have HR := Aside0.mk hr
  have HR1 := Aside0.mk hr1
  clear hr hr1
  have HB := Aside0.mk (below_alloc (below_alloc (Below.refl w.heap.size w) (.cells #[.int .i64 r0, .int .i64 c0, .slice A xs.length k] 29)) (.cells #[.int .i64 r1, .int .i64 c1, .slice A1 ys.length k1] 29))
  cases h0 : r0 == r1
  · have hq : (r0 != r1) = true := by rw [bne, h0]; rfl
    have He : Aside0 (tabEq r0 c0 xs r1 c1 ys = false) := ⟨by rw [tabEq, h0]; rfl⟩
    clear h0
    go_enter Try.func12, Try.ntmps12
    go_wp2
    go_ret
    exact ⟨ret_bool He.out.symm, HB.out⟩
  · have hq : (r0 != r1) = false := by rw [bne, h0]; rfl
    cases h1 : c0 == c1
    · have hq1 : (c0 != c1) = true := by rw [bne, h1]; rfl
      have He : Aside0 (tabEq r0 c0 xs r1 c1 ys = false) := ⟨by rw [tabEq, h0, h1]; rfl⟩
      clear h0 h1
      go_enter Try.func12, Try.ntmps12
      go_wp2
      go_ret
      exact ⟨ret_bool He.out.symm, HB.out⟩
    · have hq1 : (c0 != c1) = false := by rw [bne, h1]; rfl
      cases h2 : xs == ys
      all_goals
        have He := Aside0.mk (show tabEq r0 c0 xs r1 c1 ys = _ by rw [tabEq, h0, h1, h2, Bool.true_and, Bool.true_and])
        have H2 := Aside0.mk h2
        clear h0 h1 h2
        go_enter Try.func12, Try.ntmps12
        go_wp2_with fail
        refine (eqIntS_b H2.out A A1 k k1 _ (Kd.C_below HR.out HB.out) (Kd.C_below HR1.out HB.out)).mono ?_
        rintro e w1 ⟨rfl, hb⟩
        go_wp2
        go_ret
        exact ⟨ret_bool He.out.symm, below_step HB.out hb⟩
theorem only_alloc (g : Option Nat) (w : World) (o : Obj) : Only g w (w.alloc o) := by
  have h := below_alloc (Below.refl w.heap.size w) o
  exact ⟨h.os, h.tape, h.output, h.size, fun k hl _ => h.block k hl⟩
set_option maxHeartbeats 800000 in
theorem markTable_c (r0 c0 : Int) (xs : List Int) (v : Value) (n : Int) (w0 w : World) (hr : OI w w0.heap.size v xs) (hB : Below w0.heap.size w0 w) (h0 : 0 ≤ n) (h1 : n ≤ 1000000000) (hl : xs.length ≤ 1000000000) :
    Calls Try.prog 13 #[.agg #[.int .i64 r0, .int .i64 c0, v], .int .i64 n] w fun e w' => e = .returned (.int .i64 (n + xs.length)) ∧ OI w' w0.heap.size v (cnt n xs.length) ∧ Below w0.heap.size w0 w' ∧ Only v.ownBlock w w' := by
  obtain ⟨A, c, rfl, _⟩ := OI_shape hr
  have HO := Aside0.mk (Kd.R_alloc hr (.cells #[.int .i64 r0, .int .i64 c0, .slice A xs.length c] 29))
  have HB := Aside0.mk (below_alloc hB (.cells #[.int .i64 r0, .int .i64 c0, .slice A xs.length c] 29))
  clear hr hB
  go_enter Try.func13, Try.ntmps13
  go_wp2_with fail
  refine (markIntS_c xs _ n _ w0 _ HO.out HB.out h0 h1 hl).mono ?_
  rintro e w1 ⟨rfl, ho, hb, hk⟩
  go_wp2
  go_ret
  exact ⟨rfl, ho, hb, (only_alloc _ _ _).trans hk⟩
end Go.Proofs.Ytgddmgcneefeeaa.M
