/- Tables: the least number of parts. -/
import Derived.Test.YtgddmgcneefeeaaTD
set_option linter.unusedVariables false
set_option linter.unusedSimpArgs false
namespace Go.Proofs.Ytgddmgcneefeeaa.M
open Go.RowKit Go.Proofs.YtgddmgcneefeeaaW.PrintWords
def hasSplit (c : Nat) (m : List Int) (q : Int) : Bool := (splitF c m q.toNat).isSome
/-- The least number of parts up to four, 0 if there is none. -/
def leastF (c : Nat) (m : List Int) : Int := if nx (hasSplit c m) 4 1 < 0 then 0 else nx (hasSplit c m) 4 1
def lst (r c : Int) (m : List Int) : Int := if few r c m then leastF c.toNat m else 0
theorem leastF_none {c : Nat} {m : List Int} (h : ∀ i : Nat, 1 ≤ i → i < 5 → hasSplit c m i = false) : leastF c m = 0 := by
  rw [leastF, nx_none _ _ _ (fun i h1 h2 => h i h1 (by omega))]
  rfl
theorem leastF_some {c : Nat} {m : List Int} {g : Nat} (h1 : 1 ≤ g) (h2 : g ≤ 4) (h : ∀ i : Nat, 1 ≤ i → i < g → hasSplit c m i = false) (hg : hasSplit c m g = true) : leastF c m = g := by
  rw [leastF, nx_find _ _ _ g (fun i h1 h2 => h i h1 h2) h1 (by omega) hg, if_neg (by omega)]
theorem leastF_pos (c : Nat) (m : List Int) : 0 ≤ leastF c m ∧ leastF c m ≤ 4 := by
  rw [leastF]
  split
  · omega
  · rcases nx_range (hasSplit c m) 4 1 with h | h <;> omega
set_option maxHeartbeats 1600000 in
set_option maxRecDepth 100000 in
theorem leastParts_c (c : Nat) (m : List Int) (hv : VT c m) (A : Option Addr) (k : Nat) (w : World) (hr : I.C w A m.length m) :
    Calls Try.prog 58 #[.agg #[.int .i64 (m.length : Int), .int .i64 (c : Int), .slice A m.length k]] w fun e w' => e = .returned (.int .i64 (leastF c m)) ∧ Below w.heap.size w w' := by
  have HR := Aside0.mk hr
  have HV := Aside0.mk hv
  have hX := Aside0.mk (blk_new w (.cells #[.int .i64 (m.length : Int), .int .i64 (c : Int), .slice A m.length k] 29))
  have hB := Aside0.mk (below_alloc (Below.refl w.heap.size w) (.cells #[.int .i64 (m.length : Int), .int .i64 (c : Int), .slice A m.length k] 29))
  clear hr hv
  go_enter Try.func58, Try.ntmps58
  go_wp2
  go_loopw [3] (fun i wr => ∃ g : Nat, 1 ≤ g ∧ g ≤ 5 ∧ i = .int .i64 g ∧ Aside0 (∀ i : Nat, 1 ≤ i → i < g → hasSplit c m i = false) ∧ Aside0 (Below w.heap.size w wr) ∧
      Aside0 (wr.heap[w.heap.size]? = some (.cells #[.int .i64 (m.length : Int), .int .i64 (c : Int), .slice A m.length k] 29 (0, 0)))) (fun i _ => 5 - (intOf i).toNat)
  case atStart => exact ⟨1, by omega, by omega, rfl, ⟨fun i hi => by omega⟩, hB, hX⟩
  case round =>
    clear hX hB
    obtain ⟨g, hg1, hg5, rfl, HF, HB, HX⟩ := hrel
    obtain ⟨hx0, hx1, hx2⟩ := box3 HX.out
    by_cases hlt : g ≤ 4
    · go_wp2_with fail
      refine (split_c c m HV.out g hlt A k _ (Kd.C_below HR.out HB.out)).mono ?_
      rintro e w1 ⟨v1, rfl, ho1, hb1⟩
      have HB1 := Aside0.mk (below_step HB.out hb1)
      have HX1 := Aside0.mk (blk_below HX.out hb1)
      clear HB HX hx0 hx1 hx2 hb1
      have hsd : Aside0 (hasSplit c m g = (splitF c m g).isSome) := ⟨by rw [hasSplit, Int.toNat_natCast]⟩
      cases hf : splitF c m g with
      | none =>
        rw [hf] at ho1 hsd
        have e1 : v1 = .slice none 0 0 := ho1
        clear ho1 hf
        subst e1
        have hnn := fun w => nen_none w
        go_wp2
        go_roundw
        case rel => exact ⟨g + 1, by omega, by omega, by go_num, ⟨fun i h1 hi => by rcases Nat.lt_or_ge i g with h | h; exact HF.out i h1 h; rw [show i = g by omega]; exact hsd.out⟩, HB1, HX1⟩
        case measure => simp [intOf]; omega
      | some o =>
        rw [hf] at ho1 hsd
        obtain ⟨ad5, c5, rfl, _⟩ := ho1
        have hl := Aside0.mk (leastF_some hg1 hlt HF.out hsd.out)
        clear hf
        have hnn := fun w => nen_some w ad5 o.length c5
        go_wp2
        go_ret
        exact ⟨ret_int hl.out.symm, HB1.out⟩
    · have hl := Aside0.mk (leastF_none (fun i h1 h2 => HF.out i h1 (by omega)))
      go_wp2
      go_ret
      exact ⟨ret_int hl.out.symm, HB.out⟩
theorem few_good {r c : Int} {m : List Int} (h : few r c m = true) : ∃ n : Nat, c = n ∧ r = m.length ∧ VT n m := by
  rw [few, Bool.and_eq_true] at h
  obtain ⟨n, h1, h2, h3⟩ := good_VT h.1
  exact ⟨n, h1, h2, h3⟩
theorem isSplit_b {r c : Int} {m : List Int} {b : Bool} (h : few r c m = b) (A : Option Addr) (k : Nat) (hk : m.length ≤ k) (w : World) (hr : I.C w A m.length m) :
    Calls Try.prog 57 #[.agg #[.int .i64 r, .int .i64 c, .slice A m.length k]] w fun e w' => e = .returned (.bool b) ∧ Below w.heap.size w w' := by
  subst h; exact isSplit_c r c m A k hk w hr
theorem feFew_b {r c : Int} {m : List Int} {b : Bool} (h : few r c m = b) (A : Option Addr) (k : Nat) (hk : m.length ≤ k) (w : World) (hr : I.C w A m.length m) :
    Calls Try.prog 59 #[.agg #[.int .i64 r, .int .i64 c, .slice A m.length k]] w fun e w' => e = .returned (.bool b) ∧ Below w.heap.size w w' := by
  subst h; exact feFew_c r c m A k hk w hr
theorem ret_lst {a b : Int} {x y : Bool} (h : a = b) (h' : x = y) : Ending.returned (.tuple #[.int .i64 a, .bool x]) = .returned (.tuple #[.int .i64 b, .bool y]) := by rw [h, h']
set_option maxHeartbeats 1600000 in
set_option maxRecDepth 100000 in
theorem implLeast_c (r c : Int) (m : List Int) (A : Option Addr) (k : Nat) (hk : m.length ≤ k) (w : World) (hr : I.C w A m.length m) :
    Calls Try.prog 18 #[.agg #[.int .i64 r, .int .i64 c, .slice A m.length k]] w fun e w' => e = .returned (.tuple #[.int .i64 (lst r c m), .bool (decide (0 < lst r c m))]) ∧ Below w.heap.size w w' := by
  have HR := Aside0.mk hr
  have hX := Aside0.mk (blk_new w (.cells #[.int .i64 r, .int .i64 c, .slice A m.length k] 29))
  have hB := Aside0.mk (below_alloc (Below.refl w.heap.size w) (.cells #[.int .i64 r, .int .i64 c, .slice A m.length k] 29))
  clear hr
  cases hf : few r c m
  · have hl : Aside0 (lst r c m = 0) := ⟨by rw [lst, hf]; rfl⟩
    have Hf := Aside0.mk hf
    clear hf
    go_enter Try.func18, Try.ntmps18
    go_wp2_with fail
    refine (isSplit_b Hf.out A k hk _ (Kd.C_below HR.out hB.out)).mono ?_
    rintro e w1 ⟨rfl, hb⟩
    go_wp2
    go_ret2
    exact ⟨ret_lst hl.out.symm (by rw [hl.out]; rfl), below_step hB.out hb⟩
  · obtain ⟨n, rfl, rfl, hv⟩ := few_good hf
    have HV := Aside0.mk hv
    have hl : Aside0 (lst m.length n m = leastF n m) := ⟨by rw [lst, hf, if_pos rfl, Int.toNat_natCast]⟩
    have Hf := Aside0.mk hf
    clear hf hv
    go_enter Try.func18, Try.ntmps18
    go_wp2_with fail
    refine (isSplit_b Hf.out A k hk _ (Kd.C_below HR.out hB.out)).mono ?_
    rintro e w1 ⟨rfl, hb⟩
    have HB1 := Aside0.mk (below_step hB.out hb)
    obtain ⟨hx0, hx1, hx2⟩ := box3 (blk_below hX.out hb)
    clear hb hB hX
    go_wp2_with fail
    refine (leastParts_c n m HV.out A k _ (Kd.C_below HR.out HB1.out)).mono ?_
    rintro e w2 ⟨rfl, hb⟩
    go_wp2
    go_ret2
    exact ⟨ret_lst hl.out.symm (by rw [hl.out]), below_step HB1.out hb⟩
end Go.Proofs.Ytgddmgcneefeeaa.M
