/- append(v, y) on a list of one's own that is used on behind it. -/
import Derived.Test.YtgffgmfjoepjoaaDoorC3
import Derived.Deep.RegionLaw
import Derived.Deep.RegionLawGrows
set_option linter.unusedVariables false
set_option linter.unusedSimpArgs false
namespace Go.Proofs.YtgffgmfjoepjoaaDoor.M
open Go.RowKit Go.Proofs.YtgffgmfjoepjoaaDoorW.PrintWords
theorem OI_of {w : World} {b : Nat} {v : Value} {xs : List Int} (h : w.ownsRow b 3 1 v xs.length (nums .i64 xs)) : OI w b v xs := Kd.R_of_own h (fun _ _ => trivial)
theorem OI_row {w : World} {b g n c : Nat} {xs : List Int} (h : OI w b (.slice (some ⟨g, 0, none⟩) n c) xs) :
    n = xs.length ∧ b ≤ g ∧ n ≤ c ∧ c ≤ maxLen ∧ ∃ cur, w.heap[g]? = some (.cells cur 3 (0, 0)) ∧ cur.size = c ∧ cur.toList.take n = nums .i64 xs := by
  have hn := (Kd.R_reads' h).1
  subst hn
  rcases (OI_own h).2 with ⟨e, _⟩ | ⟨g', cap, cur, e, h1, h2, h3, h4, h5, h6⟩
  · cases e
  · injection e with e1 _ e2
    injection e1 with e1
    injection e1 with e1
    subst e1 e2
    exact ⟨rfl, h1, h3, h4, cur, h2, by omega, by simpa using h6⟩
theorem OI_mk {w : World} {b g c : Nat} {xs : List Int} {cur : Array Value} (h1 : b ≤ g) (h2 : w.heap[g]? = some (.cells cur 3 (0, 0))) (h3 : xs.length ≤ c) (h4 : c ≤ maxLen) (h5 : cur.size = c) (h6 : cur.toList.take xs.length = nums .i64 xs) :
    OI w b (.slice (some ⟨g, 0, none⟩) xs.length c) xs :=
  OI_of ⟨by simp [nums], .inr ⟨g, c, cur, rfl, h1, h2, h3, h4, by omega, by simpa using h6⟩⟩
theorem nums_snoc (xs : List Int) (y : Int) : nums .i64 (xs ++ [y]) = nums .i64 xs ++ [.int .i64 y] := by simp [nums]
theorem OI_front {w : World} {b g n c : Nat} {xs : List Int} {y : Int} (h : OI w b (.slice (some ⟨g, 0, none⟩) (n + 1) c) (xs ++ [y])) (hn : xs.length = n) : OI w b (.slice (some ⟨g, 0, none⟩) n c) xs := by
  subst hn
  obtain ⟨h1, h2, h3, h4, cur, h5, h6, h7⟩ := OI_row h
  refine OI_mk h2 h5 (by omega) h4 h6 ?_
  have h8 := congrArg (List.take xs.length) h7
  rw [List.take_take, nums_snoc, List.take_left' (by simp [nums])] at h8
  rwa [show min xs.length (xs.length + 1) = xs.length by omega] at h8
set_option maxRecDepth 100000 in
/-- Both ways of an append: in place, or anew. -/
theorem appK_step {ops : Array Oper} {o : Oper} {a : Act} {Q : Exit → Act → World → Prop} {Kc : Act → World → Prop} {w0 W : World} {base g n c : Nat} (s x : Operand) (hgd : o.guard = none)
    (ho : o.op = .call { callee := .builtin .append, args := #[s, x], argTypes := #[32, 32] }) (xs : List Int) (y : Int) (hs : a.eval s = .slice (some ⟨g, 0, none⟩) n c) (hx : a.eval x = .slice (some ⟨W.heap.size, 0, none⟩) 1 1)
    (HO : OI W base (.slice (some ⟨g, 0, none⟩) n c) xs) (HB : Below base w0 W) (hbase : base ≤ W.heap.size) (hl : n ≤ 1000000000)
    (h : ∀ g1 c1 w1, OI w1 base (.slice (some ⟨g1, 0, none⟩) (n + 1) c1) (xs ++ [y]) → (g1 = g ∨ W.heap.size ≤ g1) → (g1 = g → c1 = c) → Below base w0 w1 → W.grownBy w1 (some g) → (g1 ≠ g → W.grownBy w1 none) → Kc (a.put o.dst (.slice (some ⟨g1, 0, none⟩) (n + 1) c1)) w1) :
    if Region.wanted o (yielded ops a.tmps) = true then Oper.wp Tryd.prog o a (W.alloc (.cells #[.int .i64 y] 3)) Kc Q else Kc (a.put o.dst undef) (W.alloc (.cells #[.int .i64 y] 3)) := by
  obtain ⟨h1, h2, h3, h4, cur, h5, h6, h7⟩ := OI_row HO
  have hgl : g < W.heap.size := blk_lt h5
  have h5' : (W.alloc (.cells #[.int .i64 y] 3)).heap[g]? = some (.cells cur 3 (0, 0)) := blk_alloc h5 _
  have hnews : ∀ j u, ([Value.int .i64 y])[j]? = some u → (W.alloc (.cells #[.int .i64 y] 3)).cell? ((⟨W.heap.size, 0, none⟩ : Addr).add j) = some u := by
    intro j u hj
    cases j with
    | zero => injection hj with hj; subst hj; exact (blk_cell (blk_new W (.cells #[.int .i64 y] 3)) 0).trans rfl
    | succ j => simp at hj
  obtain ⟨i0, hi, hzz⟩ := Option.map_eq_some_iff.1 infoI
  simp only [Prod.mk.injEq] at hzz
  obtain ⟨hz0, hz1, hz2⟩ := hzz
  subst h1
  by_cases hroom : xs.length + 1 ≤ c
  · refine step_append_room hgd s x 32 ho 3 i0 1 Tryd.underlying32 hi hz1 g 0 xs.length c hs ⟨W.heap.size, 0, none⟩ 1 1 [.int .i64 y] hx rfl hnews (by simp [Value.oneCell']) hroom (fun j hj => ?_) ?_
    · have hj0 : j = 0 := by simpa using hj
      subst hj0
      rw [blk_cell h5']
      exact ⟨by rw [Array.getElem?_eq_getElem (by omega)]; rfl, blk_frozen h5' _⟩
    · obtain ⟨cur', k1, k2, k3⟩ := setCells_row [Value.int .i64 y] (0 + xs.length * 1) (W.alloc (.cells #[.int .i64 y] 3)) cur h5' (by simp; omega)
      obtain ⟨s1, s2, s3, s4⟩ := setCells_same g [Value.int .i64 y] (0 + xs.length * 1) (W.alloc (.cells #[.int .i64 y] 3))
      have hgr : W.grownBy ((W.alloc (.cells #[.int .i64 y] 3)).setCells g (0 + xs.length * 1) [.int .i64 y]) (some g) :=
        ⟨s1, s2, s3, by rw [s4]; simp, fun k hk hne => (setCells_far _ _ k (fun e => hne (by rw [e]))).trans (Below.heap_alloc W _ k hk)⟩
      refine h g c _ ?_ (.inl rfl) (fun _ => rfl) (HB.grown hgr hbase (fun k hk => by injection hk with hk; omega)) hgr (fun hne => absurd rfl hne)
      have hl1 : (xs ++ [y]).length = xs.length + 1 := by simp
      rw [← hl1]
      refine OI_mk h2 k1 (by omega) h4 (by omega) ?_
      rw [k3, nums_snoc, hl1, show 0 + xs.length * 1 = xs.length by omega, h7, List.append_assoc, List.take_append, nums_length, Nat.add_sub_cancel_left, List.take_of_length_le (by rw [nums_length]; omega)]
      rfl
  · refine step_append_grows hgd s x 32 ho 3 i0 (.int .i64 0) 1 8 Tryd.underlying32 hi hz0 hz1 hz2 rfl (by omega) (some ⟨g, 0, none⟩) xs.length c (nums .i64 xs) hs (fun e => by cases e) (by simp [nums]) (fun b hb j u hj => ?_) ⟨W.heap.size, 0, none⟩ 1 1 [.int .i64 y] hx rfl hnews (by simp [Value.oneCell']) (by omega) (by simp only [maxLen]; omega) (by omega) ?_
    · injection hb with hb
      subst hb
      rw [add_at, Nat.zero_add, blk_cell h5']
      rw [← h7, List.getElem?_take] at hj
      split at hj
      · simpa using hj
      · cases hj
    · intro v1 w1 hown hg1
      rw [← nums_snoc] at hown
      have hl1 : xs.length + 1 = (xs ++ [y]).length := by simp
      rw [hl1] at hown
      rcases hown.2 with ⟨e, he⟩ | ⟨g1, c1, cur1, rfl, r1, r2, r3, r4, r5, r6⟩
      · simp at he
      · have hg2 : W.grownBy w1 none := World.grownBy.trans (World.grownBy_alloc W _ none) hg1
        have hr1 : W.heap.size ≤ g1 := by simp at r1; omega
        rw [← hl1]
        refine h g1 c1 w1 ?_ (.inr hr1) (fun e => by omega) (HB.grown hg2 hbase (fun k hk => by cases hk)) ⟨hg2.os, hg2.tape, hg2.output, hg2.size, fun k hk _ => hg2.block k hk (by simp)⟩ (fun _ => hg2)
        rw [hl1]
        exact OI_mk (by omega) r2 r3 r4 (by omega) (by simpa using r6)
end Go.Proofs.YtgffgmfjoepjoaaDoor.M
