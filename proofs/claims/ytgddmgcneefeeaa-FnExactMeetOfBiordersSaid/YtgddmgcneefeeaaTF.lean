/- Tables: the reading's LeastParts. -/
import Derived.Test.YtgddmgcneefeeaaTE
import Derived.Deep.RegionLaw
set_option linter.unusedVariables false
set_option linter.unusedSimpArgs false
namespace Go.Proofs.Ytgddmgcneefeeaa.M
open Go.RowKit Go.Proofs.YtgddmgcneefeeaaW.PrintWords
/-- feSplit from nothing. -/
theorem feSplit_0 (c : Nat) (m : List Int) (hv : VT c m) (g : Nat) (hg : g ≤ 4) (A A1 : Option Addr) (k k1 n : Nat) (w : World) (hr : I.C w A m.length m) (hr1 : I.C w A1 n (emp c m)) :
    Calls Try.prog 46 #[.agg #[.int .i64 (m.length : Int), .int .i64 (c : Int), .slice A m.length k], .slice A1 n k1, .slice none 0 0, .int .i64 (g : Int)] w fun e w' =>
      ∃ v, e = .returned (.tuple #[v, .bool (splitF c m g).isSome]) ∧ ReadsO w' v (splitF c m g) ∧ Below w.heap.size w w' := by
  have hn := hr1.1
  subst hn
  have h := feSplit_c c m (emp c m) hv g hg (fun x hx => ⟨(emp_mem hv hx).1, (emp_mem hv hx).2.1⟩) (emp_len hv) (emp c m).length
  unfold FeSplitC at h
  have h := h [] A A1 none k k1 0 0 w rfl (by omega) hr hr1 (Kd_C_nil _ _)
  rwa [findS_start] at h
theorem feSplit_b {c : Nat} {m : List Int} (hv : VT c m) {g : Nat} (hg : g ≤ 4) {b : Bool} (hb : (splitF c m g).isSome = b) (A A1 : Option Addr) (k k1 n : Nat) (w : World) (hr : I.C w A m.length m) (hr1 : I.C w A1 n (emp c m)) :
    Calls Try.prog 46 #[.agg #[.int .i64 (m.length : Int), .int .i64 (c : Int), .slice A m.length k], .slice A1 n k1, .slice none 0 0, .int .i64 (g : Int)] w fun e w' =>
      ∃ v, e = .returned (.tuple #[v, .bool b]) ∧ ReadsO w' v (splitF c m g) ∧ Below w.heap.size w w' := by
  subst hb
  exact feSplit_0 c m hv g hg A A1 k k1 n w hr hr1
set_option maxHeartbeats 1600000 in
set_option maxRecDepth 100000 in
theorem specLeast_c (r c : Int) (m : List Int) (A : Option Addr) (k : Nat) (hk : m.length ≤ k) (w : World) (hr : I.C w A m.length m) :
    Calls Try.prog 19 #[.agg #[.int .i64 r, .int .i64 c, .slice A m.length k]] w fun e w' => e = .returned (.tuple #[.int .i64 (lst r c m), .bool (decide (0 < lst r c m))]) ∧ Below w.heap.size w w' := by
  have HR := Aside0.mk hr
  have hX := Aside0.mk (blk_new w (.cells #[.int .i64 r, .int .i64 c, .slice A m.length k] 29))
  have hB := Aside0.mk (below_alloc (Below.refl w.heap.size w) (.cells #[.int .i64 r, .int .i64 c, .slice A m.length k] 29))
  clear hr
  cases hf : few r c m
  · have hl : Aside0 (lst r c m = 0) := ⟨by rw [lst, hf]; rfl⟩
    have Hf := Aside0.mk hf
    clear hf
    go_enter Try.func19, Try.ntmps19
    go_wp2_with fail
    refine (feFew_b Hf.out A k hk _ (Kd.C_below HR.out hB.out)).mono ?_
    rintro e w1 ⟨rfl, hb⟩
    go_wp2
    go_ret2
    exact ⟨ret_lst hl.out.symm (by rw [hl.out]; rfl), below_step hB.out hb⟩
  · obtain ⟨n, rfl, rfl, hv⟩ := few_good hf
    have HV := Aside0.mk hv
    have hl : Aside0 (lst m.length n m = leastF n m) := ⟨by rw [lst, hf, if_pos rfl, Int.toNat_natCast]⟩
    have Hf := Aside0.mk hf
    clear hf hv
    go_enter Try.func19, Try.ntmps19
    go_wp2_with fail
    refine (feFew_b Hf.out A k hk _ (Kd.C_below HR.out hB.out)).mono ?_
    rintro e w1 ⟨rfl, hb⟩
    have HB1 := Aside0.mk (below_step hB.out hb)
    have HX1 := Aside0.mk (blk_below hX.out hb)
    clear hb hB hX
    go_wp2
    go_loopw [4] (fun i wr => ∃ g : Nat, 1 ≤ g ∧ g ≤ 5 ∧ i = .int .i64 g ∧ Aside0 (∀ i : Nat, 1 ≤ i → i < g → hasSplit n m i = false) ∧ Aside0 (Below w.heap.size w wr) ∧
        Aside0 (wr.heap[w.heap.size]? = some (.cells #[.int .i64 (m.length : Int), .int .i64 (n : Int), .slice A m.length k] 29 (0, 0)))) (fun i _ => 5 - (intOf i).toNat)
    case atStart => exact ⟨1, by omega, by omega, rfl, ⟨fun i hi => by omega⟩, HB1, HX1⟩
    case round =>
      clear HX1 HB1
      obtain ⟨g, hg1, hg5, rfl, HF, HB, HX⟩ := hrel
      obtain ⟨hx0, hx1, hx2⟩ := box3 HX.out
      by_cases hlt : g ≤ 4
      · have hsd : Aside0 (hasSplit n m g = (splitF n m g).isSome) := ⟨by rw [hasSplit, Int.toNat_natCast]⟩
        cases hb : (splitF n m g).isSome
        all_goals
          rw [hb] at hsd
          have Hb := Aside0.mk hb
          clear hb
          go_wp2
          go_region_held3 (fun w' => w'.cell? ⟨w.heap.size, 0, none⟩ = some (.int .i64 (m.length : Int)) ∧ w'.cell? ⟨w.heap.size, 1, none⟩ = some (.int .i64 (n : Int)) ∧ w'.cell? ⟨w.heap.size, 2, none⟩ = some (.slice A m.length k)) (first | exact ⟨hx0, hx1, hx2⟩ | exact box3 HX2.out | exact box3 HX1.out)
            (first | (go_at_call 45; with_reducible refine (feEmpty_c n m HV.out A k _ (Kd.C_below HR.out (below_drew1 HB.out))).mono ?_; rintro e w1 ⟨v1, rfl, ho1, hb1⟩; obtain ⟨A6, c6, rfl, _⟩ := OI_shape ho1; have HO1 := Aside0.mk ho1; have HB1 := Aside0.mk (below_step (below_drew1 HB.out) hb1); have HX1 := Aside0.mk (blk_below (blk_drew HX.out) hb1); clear ho1 hb1) | (go_at_call 46; with_reducible refine (feSplit_b HV.out hlt Hb.out A _ k _ _ _ (Kd.C_below HR.out HB1.out) (OI_C HO1.out)).mono ?_; rintro e w2 ⟨v2, rfl, _, hb2⟩; have HB2 := Aside0.mk (below_step HB1.out hb2); have HX2 := Aside0.mk (blk_below HX1.out hb2); clear hb2))
          go_wp2
        · go_roundw
          case rel => exact ⟨g + 1, by omega, by omega, by go_num, ⟨fun i h1 hi => by rcases Nat.lt_or_ge i g with h | h; exact HF.out i h1 h; rw [show i = g by omega]; exact hsd.out⟩, HB2, HX2⟩
          case measure => simp [intOf]; omega
        · have hs := Aside0.mk (hl.out.trans (leastF_some hg1 hlt HF.out hsd.out))
          go_ret2
          exact ⟨ret_lst hs.out.symm (by rw [hs.out]; simp; omega), HB2.out⟩
      · have hs := Aside0.mk (hl.out.trans (leastF_none (fun i h1 h2 => HF.out i h1 (by omega))))
        go_wp2
        go_ret2
        exact ⟨ret_lst hs.out.symm (by rw [hs.out]; rfl), HB.out⟩
end Go.Proofs.Ytgddmgcneefeeaa.M
