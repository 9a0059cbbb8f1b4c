/- The law's helpers on one order. -/
import Derived.Test.YtgffgmfjoepjoaaDoorN2
set_option linter.unusedVariables false
set_option linter.unusedSimpArgs false
namespace Go.Proofs.YtgffgmfjoepjoaaDoor.M
open Go.RowKit Go.Proofs.YtgffgmfjoepjoaaDoorW.PrintWords
theorem szIntS_b {n : Nat} {a r : Int} (h : szI n a = r) (A : Option Addr) (c : Nat) (w : World) (h0 : 0 ≤ a) (h1 : a ≤ 1000000000) (hl : n ≤ 9223372036854775807) :
    Calls Tryd.prog 135 #[.slice A n c, .int .i64 a] w fun e w' => e = .returned (.int .i64 r) ∧ w' = w := by
  subst h
  have := szIntS_c (List.replicate n 0) A c a w h0 h1 (by simpa using hl)
  rwa [List.length_replicate] at this
set_option maxHeartbeats 400000 in
theorem szOrder_b {n : Nat} {a r : Int} (hr : szI n a = r) (r0 : Int) (A : Option Addr) (c : Nat) (w : World) (h0 : 0 ≤ a) (h1 : a ≤ 1000000000) (hl : n ≤ 9223372036854775807) :
    Calls Tryd.prog 51 #[.agg #[.int .i64 r0, .slice A n c], .int .i64 a] w fun e w' => e = .returned (.int .i64 r) ∧ Below w.heap.size w w' := by
  have hB := Aside0.mk (below_alloc (Below.refl w.heap.size w) (.cells #[.int .i64 r0, .slice A n c] 61))
  have Hr := Aside0.mk hr
  by_cases h : r < 0
  · have hm : r = -1 := by rw [szI] at hr; split at hr <;> omega
    subst hm
    clear hr
    go_enter Tryd.func51, Tryd.ntmps51
    go_wp2_with fail
    refine (szIntS_b Hr.out A c _ h0 h1 hl).mono ?_
    rintro e w1 ⟨rfl, rfl⟩
    go_wp2
    go_ret
    exact ⟨rfl, hB.out⟩
  · clear hr
    go_enter Tryd.func51, Tryd.ntmps51
    go_wp2_with fail
    refine (szIntS_b Hr.out A c _ h0 h1 hl).mono ?_
    rintro e w1 ⟨rfl, rfl⟩
    go_wp2
    go_ret
    exact ⟨rfl, hB.out⟩
set_option maxHeartbeats 800000 in
set_option maxRecDepth 100000 in
theorem toOrder_c (r0 : Int) (m : List Int) (A : Option Addr) (c : Nat) (w : World) (hr : I.C w A m.length m) (hl : m.length ≤ 1000000000) :
    Calls Tryd.prog 53 #[.agg #[.int .i64 r0, .slice A m.length c]] w fun e w' => ∃ v, e = .returned (.agg #[.int .i64 r0, v]) ∧ OI w' w.heap.size v m ∧ Below w.heap.size w w' := by
  have HR := Aside0.mk hr
  clear hr
  obtain ⟨X, hX⟩ : ∃ X, X = ((w.alloc (.cells #[.int .i64 r0, .slice A m.length c] 61)).alloc (.cells #[.int .i64 0, .slice none 0 0] 34)) := ⟨_, rfl⟩
  have hXs : X.heap.size = w.heap.size + 1 + 1 := by subst hX; simp
  have hBX : Below w.heap.size w X := by subst hX; exact below_alloc (below_alloc (Below.refl _ _) _) _
  have hX1 : X.heap[w.heap.size + 1]? = some (.cells #[.int .i64 0, .slice none 0 0] 34 (0, 0)) := by subst hX; exact blk_this (by simp)
  have HB := Aside0.mk (below_alloc hBX (.cells #[.int .i64 r0, .slice none 0 0] 34))
  have HX1 := Aside0.mk (blk_alloc hX1 (.cells #[.int .i64 r0, .slice none 0 0] 34))
  have HX2 := Aside0.mk (blk_this (o := .cells #[.int .i64 r0, .slice none 0 0] 34) hXs)
  subst hX
  clear hXs hBX hX1
  go_enter Tryd.func53, Tryd.ntmps53
  go_wp2_with fail
  refine (toIntS_c m A c _ (Kd.C_below HR.out HB.out) hl).mono ?_
  rintro e w1 ⟨v1, rfl, ho, hb⟩
  have HB1 := Aside0.mk (below_step HB.out hb)
  have HX3 := Aside0.mk (blk_below HX1.out hb)
  have HX4 := Aside0.mk (blk_below HX2.out hb)
  have HO := Aside0.mk (Kd.R_lower ho HB.out.size)
  obtain ⟨A6, c6, rfl, _⟩ := OI_shape ho
  clear ho hb HX1 HX2 HB
  obtain ⟨hx0, hx1⟩ := box2 HX4.out
  have hf1 := blk_frozen HX4.out 1
  have HX5 := Aside0.mk (blk_far HX3.out (p := ⟨w.heap.size + 1 + 1, 1, none⟩) (by show w.heap.size + 1 ≠ w.heap.size + 1 + 1; omega) (.slice A6 m.length c6))
  obtain ⟨hy0, hy1⟩ := box2 HX3.out
  have hg0 := blk_frozen HX3.out 0
  have hg1 := blk_frozen HX3.out 1
  go_wp2
  refine bodyPost_ret (results_cell_row rfl _ _ (w.heap.size + 1) 34 #[.int .i64 r0, .slice A6 m.length c6] (0, 0) _ rfl (put2 HX5.out) Tryd.underlying34 rfl (by kernel_rfl)) rfl ⟨_, rfl, ?_, ?_⟩
  · exact OI_farv (OI_farv (OI_farv HO.out HX4.out (by decide) _) HX5.out (by decide) _) (blk_put HX5.out 0 _ rfl) (by decide) _
  · exact below_set (below_set (below_set HB1.out (by omega)) (by omega)) (by omega)
theorem only_alloc (g : Option Nat) (w : World) (o : Obj) : Only g w (w.alloc o) := by
  have h := below_alloc (Below.refl w.heap.size w) o
  exact ⟨h.os, h.tape, h.output, h.size, fun k hl _ => h.block k hl⟩
set_option maxHeartbeats 800000 in
theorem markOrder_c (r0 : Int) (xs : List Int) (v : Value) (n : Int) (w0 w : World) (hr : OI w w0.heap.size v xs) (hB : Below w0.heap.size w0 w) (h0 : 0 ≤ n) (h1 : n ≤ 1000000000) (hl : xs.length ≤ 1000000000) :
    Calls Tryd.prog 56 #[.agg #[.int .i64 r0, v], .int .i64 n] w fun e w' => e = .returned (.int .i64 (n + xs.length)) ∧ OI w' w0.heap.size v (cnt n xs.length) ∧ Below w0.heap.size w0 w' ∧ Only v.ownBlock w w' := by
  obtain ⟨A, c, rfl, _⟩ := OI_shape hr
  have HO := Aside0.mk (Kd.R_alloc hr (.cells #[.int .i64 r0, .slice A xs.length c] 34))
  have HB := Aside0.mk (below_alloc hB (.cells #[.int .i64 r0, .slice A xs.length c] 34))
  clear hr hB
  go_enter Tryd.func56, Tryd.ntmps56
  go_wp2_with fail
  refine (markIntS_c xs _ n _ w0 _ HO.out HB.out h0 h1 hl).mono ?_
  rintro e w1 ⟨rfl, ho, hb, hk⟩
  go_wp2
  go_ret
  exact ⟨rfl, ho, hb, (only_alloc _ _ _).trans hk⟩
set_option maxHeartbeats 800000 in
theorem heldOrder_c (r0 : Int) (L : Nat) (A : Option Addr) (c : Nat) (n : Int) (w : World) (hr : I.C w A L (cnt n L)) (h0 : 0 ≤ n) (h1 : n ≤ 1000000000) (hl : L ≤ 1000000000) :
    Calls Tryd.prog 57 #[.agg #[.int .i64 r0, .slice A L c], .int .i64 n] w fun e w' => e = .returned (.int .i64 (n + L)) ∧ Below w.heap.size w w' := by
  have HR := Aside0.mk (Kd.C_alloc hr (.cells #[.int .i64 r0, .slice A L c] 34))
  have HB := Aside0.mk (below_alloc (Below.refl w.heap.size w) (.cells #[.int .i64 r0, .slice A L c] 34))
  have Hh := Aside0.mk (held_cnt n L)
  have hng : decide (n + (L : Int) < 0) = false := by simp; omega
  have HC : Aside0 (∀ w', w' = w.alloc (.cells #[.int .i64 r0, .slice A L c] 34) → Calls Tryd.prog 91 #[.slice A L c, .int .i64 n] w' fun e w'' => e = .returned (.int .i64 (n + L)) ∧ w'' = w') := ⟨fun w' hw => by
    have h := heldIntS_c (cnt n L) A c n w' (by rw [hw, cnt_len]; exact HR.out) h0 h1 (by rw [cnt_len]; exact hl)
    rwa [cnt_len, Hh.out] at h⟩
  clear hr
  go_enter Tryd.func57, Tryd.ntmps57
  go_wp2_with fail
  refine (HC.out _ rfl).mono ?_
  rintro e w1 ⟨rfl, rfl⟩
  go_wp2
  go_ret
  exact ⟨rfl, HB.out⟩
theorem nrTo_len {l : List Int} {L : List Ord} (hL : ∀ x ∈ L, x.2.length ≤ 4) : ∀ k, k ≤ L.length → (nrTo l L k).1.2.length ≤ 4
  | 0, _ => by simp [nrTo, zO]
  | k + 1, hk => by
    rw [nrTo_succ (by omega), nrStep]
    split
    · exact hL (rdO L k) (by simp [rdO, show k < L.length by omega])
    · exact nrTo_len hL k (by omega)
theorem nrF_len (s kind : Int) (l : List Int) : (nrF s kind l).1.2.length ≤ 4 := by
  cases h : okN s kind l
  · rw [okN_no h]; simp [zO]
  · rw [okN_yes h]
    obtain ⟨_, _, h4, ho, _, _⟩ := okN_open h
    refine nrTo_len (fun x hx => ?_) _ (Nat.le_refl _)
    rw [ho] at hx
    rw [(ords_ord l.length [] x hx).2]
    exact h4
end Go.Proofs.YtgffgmfjoepjoaaDoor.M
