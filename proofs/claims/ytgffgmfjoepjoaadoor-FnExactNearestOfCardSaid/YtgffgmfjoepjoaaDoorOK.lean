/- The orders of a kind: the program's closure. -/
import Derived.Test.YtgffgmfjoepjoaaDoorOI
import Derived.Test.YtgffgmfjoepjoaaDoorOJ
import Derived.Laws.EntriesVeiled
set_option linter.unusedVariables false
set_option linter.unusedSimpArgs false
namespace Go.Proofs.YtgffgmfjoepjoaaDoor.M
open Go.RowKit Go.Proofs.YtgffgmfjoepjoaaDoorW.PrintWords
abbrev SO (w : World) (base : Nat) (ok : Nat → Prop) (v : Value) (ts : List Ord) : Prop := Kd.S kO 34 w base ok v ts
/-- The closure's captured variables, and the list that is filled. -/
structure FB (n : Nat) (kind : Int) (bad : Nat → Prop) (bn bk bo bf : Nat) (vo : Value) (w : World) : Prop where
  hn : w.heap[bn]? = some (.cells #[.int .i64 (n : Int)] 3 (0, 0))
  hk : w.heap[bk]? = some (.cells #[.int .i64 kind] 3 (0, 0))
  ho : w.heap[bo]? = some (.cells #[vo] 25 (0, 0))
  hf : w.heap[bf]? = some (.cells #[.func (.func 157) #[] #[.pointer (some ⟨bn, 0, none⟩), .pointer (some ⟨bk, 0, none⟩), .pointer (some ⟨bo, 0, none⟩), .pointer (some ⟨bf, 0, none⟩)]] 126 (0, 0))
  bn_ : bad bn
  bk_ : bad bk
  bf_ : bad bf
  bo_ : ¬ bad bo
theorem FB.below {n : Nat} {kind : Int} {bad : Nat → Prop} {bn bk bo bf : Nat} {vo : Value} {w w1 : World} (h : FB n kind bad bn bk bo bf vo w) (hb : Below w.heap.size w w1) : FB n kind bad bn bk bo bf vo w1 :=
  ⟨blk_below h.hn hb, blk_below h.hk hb, blk_below h.ho hb, blk_below h.hf hb, h.bn_, h.bk_, h.bf_, h.bo_⟩
def FillCx (n : Nat) (kind : Int) (d : Nat) (xs : List Int) : Prop := ∀ (w0 : World) (bad : Nat → Prop) (g m c bn bk bo bf : Nat) (vo : Value) (L : List Ord) (w : World), DB w0 → xs.length = m → m + d = n →
    OI w w0.heap.size (.slice (some ⟨g, 0, none⟩) m c) xs → Below w0.heap.size w0 w → bad g → (∀ k, bad k → k < w.heap.size) → bn ≠ g → bk ≠ g → bf ≠ g → w0.heap.size ≤ bo → FB n kind bad bn bk bo bf vo w →
    SO w w0.heap.size (fun k => ¬ bad k) vo L → L.length + 16 ^ d ≤ 1000000 →
    Calls Tryd.prog 157 #[.slice (some ⟨g, 0, none⟩) m c, .pointer (some ⟨bn, 0, none⟩), .pointer (some ⟨bk, 0, none⟩), .pointer (some ⟨bo, 0, none⟩), .pointer (some ⟨bf, 0, none⟩)] w fun e w' =>
      e = .returned (.tuple #[]) ∧ ∃ vo', FB n kind bad bn bk bo bf vo' w' ∧ SO w' w0.heap.size (fun k => ¬ bad k) vo' (L ++ ords n kind d xs) ∧ OI w' w0.heap.size (.slice (some ⟨g, 0, none⟩) m c) xs ∧ Below w0.heap.size w0 w' ∧
        (∀ k, bad k → k ≠ g → w'.heap[k]? = w.heap[k]?) ∧ w.heap.size ≤ w'.heap.size
theorem FB.grown {n : Nat} {kind : Int} {bad : Nat → Prop} {bn bk bo bf base : Nat} {ok : Nat → Prop} {vo v : Value} {ts : List Ord} {w w1 : World} (h : FB n kind bad bn bk bo bf vo w) (hS : SO w base ok v ts) (hg : w.grownBy w1 v.ownBlock) : FB n kind bad bn bk bo bf vo w1 :=
  ⟨blk_grown h.hn hg (Kd.S_ne hS h.hn (by decide)), blk_grown h.hk hg (Kd.S_ne hS h.hk (by decide)), blk_grown h.ho hg (Kd.S_ne hS h.ho (by decide)), blk_grown h.hf hg (Kd.S_ne hS h.hf (by decide)), h.bn_, h.bk_, h.bf_, h.bo_⟩
theorem FB.put {n : Nat} {kind : Int} {bad : Nat → Prop} {bn bk bo bf : Nat} {vo : Value} {w : World} (h : FB n kind bad bn bk bo bf vo w) (v : Value) : FB n kind bad bn bk bo bf v (w.setCell ⟨bo, 0, none⟩ v) :=
  ⟨blk_far h.hn (p := ⟨bo, 0, none⟩) (fun e => h.bo_ ((show bn = bo from e) ▸ h.bn_)) v, blk_far h.hk (p := ⟨bo, 0, none⟩) (fun e => h.bo_ ((show bk = bo from e) ▸ h.bk_)) v, blk_put h.ho 0 v rfl, blk_far h.hf (p := ⟨bo, 0, none⟩) (fun e => h.bo_ ((show bf = bo from e) ▸ h.bf_)) v, h.bn_, h.bk_, h.bf_, h.bo_⟩
theorem appSO {ops : Array Oper} {rest : List Oper} {o : Oper} {a : Act} {Q : Exit → Act → World → Prop} {w0 W : World} {base : Nat} {bad : Nat → Prop} (s x : Operand) (hgd : o.guard = none)
    (ho : o.op = .call { callee := .builtin .append, args := #[s, x], argTypes := #[25, 25] }) (v u : Value) (ts : List Ord) (n : Int) (xs : List Int) (hs : a.eval s = v) (hx : a.eval x = .slice (some ⟨W.heap.size, 0, none⟩) 1 1)
    (HO : OI W base u xs) (HS : SO W base (fun k => ¬ bad k ∧ some k ≠ u.ownBlock) v ts) (hu : ∀ k, u.ownBlock = some k → ¬ bad k) (hbad : ∀ k, bad k → k < W.heap.size) (HB : Below base w0 W) (hbase : base ≤ W.heap.size) (hl : ts.length ≤ 1000000)
    (h : ∀ v1 w1, SO w1 base (fun k => ¬ bad k) v1 (ts ++ [(n, xs)]) → Below base w0 w1 → W.grownBy w1 v.ownBlock → (v1.ownBlock = v.ownBlock ∨ ∃ b, v1.ownBlock = some b ∧ W.heap.size ≤ b) → wpList Tryd.prog ops Q rest (a.put o.dst v1) w1) :
    wpList Tryd.prog ops Q (o :: rest) a (W.alloc (.cells #[.int .i64 n, u] 34)) := by
  refine Kd.S_append kO (w0 := w0) base hgd s x 25 34 _ 32 ho Tryd.underlying25 infoO rfl (by decide) (by omega) v ts (n, xs) [.int .i64 n, u] (fun k => ¬ bad k) (fun k => some k = u.ownBlock) hs hx
    (kO_mkM (n, xs) (Kd.R_tight rfl HO)) (fun k hk => ⟨hu k hk.symm, fun e => ?_⟩) (fun k hk hb => by have := hbad k hb; omega) HS HB hbase (by omega) h
  obtain ⟨c1, h1⟩ := Kd.S_typed HS k e.symm
  obtain ⟨c2, h2⟩ := Kd.R_typed HO k hk.symm
  rw [h1] at h2
  injection h2 with h2
  injection h2 with _ h2 _
  exact absurd h2 (by decide)
def FillC (n : Nat) (kind : Int) (d : Nat) : Prop := ∀ xs, FillCx n kind d xs
theorem blk_set2 {w : World} {g k : Nat} {o : Obj} {a b : Value} (h : w.heap[k]? = some o) (hne : k ≠ g) : ((w.setCell ⟨g, 0, none⟩ a).setCell ⟨g, 1, none⟩ b).heap[k]? = some o := by
  rw [Below.heap_setCell _ _ _ k hne, Below.heap_setCell _ _ _ k hne]; exact h
set_option maxHeartbeats 1600000 in
set_option maxRecDepth 100000 in
theorem fill_zero0 (n : Nat) (hn : n ≤ 4) (kind : Int) (xs : List Int) (hk : kindB n xs kind = false) : FillCx n kind 0 xs := by
  intro w0 bad g m c bn bk bo bf vo L w hT hm hd hxs hB hg hlt hne1 hne2 hne3 hbo hFB hS hL
  subst hm
  have HO := Aside0.mk hxs
  have HB := Aside0.mk hB
  have HS := Aside0.mk hS
  have HF := Aside0.mk hFB
  have HT := Aside0.mk (hT.below hB)
  have HLT := Aside0.mk hlt
  have HG := Aside0.mk hg
  have hq : ((xs.length : Int) == (n : Int)) = true := by simp; omega
  have hcn := box1 hFB.hn
  have Ho : Aside0 (ords n kind 0 xs = []) := ⟨by rw [ords, hk]; rfl⟩
  clear hxs hB hS hFB hT hlt hg
  go_enter Tryd.func157, Tryd.ntmps157
  go_wp2
  have HN2 : Aside0 ((w.alloc (.cells #[.int .i64 0, .slice none 0 0] 34)).drew.cell? ⟨bn, 0, none⟩ = some (.int .i64 (n : Int))) := ⟨box1 (blk_drew (blk_alloc HF.out.hn _))⟩
  go_region_held3 (fun w' => w'.cell? ⟨bn, 0, none⟩ = some (.int .i64 (n : Int))) (first | exact hcn | exact HN2.out | exact box1 (HF1.out.hn) | exact box1 (blk_alloc HF1.out.hn _) | exact box1 (blk_drew (blk_alloc HF1.out.hn _)) | exact box1 (blk_set2 HF1.out.hn (by have := blk_lt HF.out.hn; omega)))
    (first | (go_at_call 158; with_reducible refine (Clone_c xs ⟨g, 0, none⟩ c _ (Kd.C_drew (OI_C HO.out)) (by omega)).mono ?_; rintro e w1 ⟨v1, rfl, ho1, hb1⟩; obtain ⟨A1, c1, rfl, _⟩ := OI_shape ho1; have HO1 := Aside0.mk ho1; have HB1 := Aside0.mk hb1; have HF1 := Aside0.mk (HF.out.below (w1 := w1) (below_step (below_drew1 (Below.refl _ _)) hb1)); clear ho1 hb1) | (go_at_call 158; with_reducible refine (Clone_c xs ⟨g, 0, none⟩ c _ (Kd.C_drew (Kd.C_alloc (OI_C HO.out) _)) (by omega)).mono ?_; rintro e w1 ⟨v1, rfl, ho1, hb1⟩; obtain ⟨A1, c1, rfl, _⟩ := OI_shape ho1; have HO1 := Aside0.mk ho1; have HB1 := Aside0.mk hb1; have HF1 := Aside0.mk (HF.out.below (w1 := w1) (below_step (below_drew1 (below_alloc (Below.refl _ _) _)) hb1)); have hzz := blk_below (blk_drew (blk_new w (.cells #[.int .i64 0, .slice none 0 0] 34))) hb1; obtain ⟨hz0, hz1⟩ := box2 hzz; have hz2 := blk_frozen hzz 0; have hz3 := blk_frozen hzz 1; have HZ := Aside0.mk hzz; clear hzz ho1 hb1))
  · have HXX := Aside0.mk (blk_new w1 (.cells #[.int .i64 (n : Int), .slice A1 xs.length c1] 34))
    have HOO : Aside0 (OI _ w.heap.size (.slice A1 xs.length c1) xs) := ⟨Kd.R_alloc HO1.out (.cells #[.int .i64 (n : Int), .slice A1 xs.length c1] 34)⟩
    have HBB := Aside0.mk (below_alloc (below_step (below_drew1 (Below.refl w.heap.size w)) HB1.out) (.cells #[.int .i64 (n : Int), .slice A1 xs.length c1] 34))
    obtain ⟨hx0, hx1⟩ := box2 HXX.out
    have HFF := Aside0.mk (HF.out.below HBB.out)
    have hkk := box1 HFF.out.hk
    have HSR := Aside0.mk (Kd.S_elder' HS.out (v := .slice A1 xs.length c1) (Kd.R_base HOO.out) HBB.out)
    have HKC := Aside0.mk (isKind_c (n : Int) xs kind A1 c1 _ (OI_C HOO.out) (HT.out.below HBB.out))
    rw [hk] at HKC
    go_wp2_with fail
    refine HKC.out.mono ?_
    rintro e w2 ⟨rfl, hb2⟩
    have HBT := Aside0.mk (below_step HBB.out hb2)
    clear hb2
    go_wp2
    (try simp only [Exit.inBlock, Exit.then])
    refine bodyPost_ret (results_none rfl _ _ _) rfl ?_
    refine ⟨rfl, vo, HF.out.below HBT.out, ?_, Kd.R_below HO.out HBT.out, below_step HB.out HBT.out, fun k hk1 hk2 => HBT.out.block k (HLT.out k hk1), HBT.out.size⟩
    rw [Ho.out, List.append_nil]
    exact Kd.S_below HS.out HBT.out
  · have HXX := Aside0.mk (put2 HZ.out (x := .int .i64 (n : Int)) (y := .slice A1 xs.length c1))
    have HOO : Aside0 (OI ((w1.setCell ⟨w.heap.size, 0, none⟩ (.int .i64 (n : Int))).setCell ⟨w.heap.size, 1, none⟩ (.slice A1 xs.length c1)) w.heap.size (.slice A1 xs.length c1) xs) := ⟨OI_farv (OI_farv (Kd.R_lower HO1.out (size_alloc_le _ _)) HZ.out (by decide) (.int .i64 (n : Int))) (blk_put HZ.out 0 (.int .i64 (n : Int)) rfl) (by decide) (.slice A1 xs.length c1)⟩
    have HBB := Aside0.mk (below_set (j := 1) (v := .slice A1 xs.length c1) (below_set (j := 0) (v := .int .i64 (n : Int)) (below_step (below_drew1 (below_alloc (Below.refl w.heap.size w) (.cells #[.int .i64 0, .slice none 0 0] 34))) HB1.out) (Nat.le_refl _)) (Nat.le_refl _))
    clear hz0 hz1 hz2 hz3
    obtain ⟨hx0, hx1⟩ := box2 HXX.out
    have HFF := Aside0.mk (HF.out.below HBB.out)
    have hkk := box1 HFF.out.hk
    have HSR := Aside0.mk (Kd.S_elder' HS.out (v := .slice A1 xs.length c1) (Kd.R_base HOO.out) HBB.out)
    have HKC := Aside0.mk (isKind_c (n : Int) xs kind A1 c1 _ (OI_C HOO.out) (HT.out.below HBB.out))
    rw [hk] at HKC
    go_wp2_with fail
    refine HKC.out.mono ?_
    rintro e w2 ⟨rfl, hb2⟩
    have HBT := Aside0.mk (below_step HBB.out hb2)
    clear hb2
    go_wp2
    (try simp only [Exit.inBlock, Exit.then])
    refine bodyPost_ret (results_none rfl _ _ _) rfl ?_
    refine ⟨rfl, vo, HF.out.below HBT.out, ?_, Kd.R_below HO.out HBT.out, below_step HB.out HBT.out, fun k hk1 hk2 => HBT.out.block k (HLT.out k hk1), HBT.out.size⟩
    rw [Ho.out, List.append_nil]
    exact Kd.S_below HS.out HBT.out
set_option maxHeartbeats 1600000 in
set_option maxRecDepth 100000 in
theorem fill_zero1 (n : Nat) (hn : n ≤ 4) (kind : Int) (xs : List Int) (hk : kindB n xs kind = true) : FillCx n kind 0 xs := by
  intro w0 bad g m c bn bk bo bf vo L w hT hm hd hxs hB hg hlt hne1 hne2 hne3 hbo hFB hS hL
  subst hm
  have HO := Aside0.mk hxs
  have HB := Aside0.mk hB
  have HS := Aside0.mk hS
  have HF := Aside0.mk hFB
  have HT := Aside0.mk (hT.below hB)
  have HLT := Aside0.mk hlt
  have HG := Aside0.mk hg
  have hq : ((xs.length : Int) == (n : Int)) = true := by simp; omega
  have hcn := box1 hFB.hn
  have Ho : Aside0 (ords n kind 0 xs = [((n : Int), xs)]) := ⟨by rw [ords, hk]; rfl⟩
  clear hxs hB hS hFB hT hlt hg
  go_enter Tryd.func157, Tryd.ntmps157
  go_wp2
  have HN2 : Aside0 ((w.alloc (.cells #[.int .i64 0, .slice none 0 0] 34)).drew.cell? ⟨bn, 0, none⟩ = some (.int .i64 (n : Int))) := ⟨box1 (blk_drew (blk_alloc HF.out.hn _))⟩
  go_region_held3 (fun w' => w'.cell? ⟨bn, 0, none⟩ = some (.int .i64 (n : Int))) (first | exact hcn | exact HN2.out | exact box1 (HF1.out.hn) | exact box1 (blk_alloc HF1.out.hn _) | exact box1 (blk_drew (blk_alloc HF1.out.hn _)) | exact box1 (blk_set2 HF1.out.hn (by have := blk_lt HF.out.hn; omega)))
    (first | (go_at_call 158; with_reducible refine (Clone_c xs ⟨g, 0, none⟩ c _ (Kd.C_drew (OI_C HO.out)) (by omega)).mono ?_; rintro e w1 ⟨v1, rfl, ho1, hb1⟩; obtain ⟨A1, c1, rfl, _⟩ := OI_shape ho1; have HO1 := Aside0.mk ho1; have HB1 := Aside0.mk hb1; have HF1 := Aside0.mk (HF.out.below (w1 := w1) (below_step (below_drew1 (Below.refl _ _)) hb1)); clear ho1 hb1) | (go_at_call 158; with_reducible refine (Clone_c xs ⟨g, 0, none⟩ c _ (Kd.C_drew (Kd.C_alloc (OI_C HO.out) _)) (by omega)).mono ?_; rintro e w1 ⟨v1, rfl, ho1, hb1⟩; obtain ⟨A1, c1, rfl, _⟩ := OI_shape ho1; have HO1 := Aside0.mk ho1; have HB1 := Aside0.mk hb1; have HF1 := Aside0.mk (HF.out.below (w1 := w1) (below_step (below_drew1 (below_alloc (Below.refl _ _) _)) hb1)); have hzz := blk_below (blk_drew (blk_new w (.cells #[.int .i64 0, .slice none 0 0] 34))) hb1; obtain ⟨hz0, hz1⟩ := box2 hzz; have hz2 := blk_frozen hzz 0; have hz3 := blk_frozen hzz 1; have HZ := Aside0.mk hzz; clear hzz ho1 hb1))
  · have HXX := Aside0.mk (blk_new w1 (.cells #[.int .i64 (n : Int), .slice A1 xs.length c1] 34))
    have HOO : Aside0 (OI _ w.heap.size (.slice A1 xs.length c1) xs) := ⟨Kd.R_alloc HO1.out (.cells #[.int .i64 (n : Int), .slice A1 xs.length c1] 34)⟩
    have HBB := Aside0.mk (below_alloc (below_step (below_drew1 (Below.refl w.heap.size w)) HB1.out) (.cells #[.int .i64 (n : Int), .slice A1 xs.length c1] 34))
    obtain ⟨hx0, hx1⟩ := box2 HXX.out
    have HFF := Aside0.mk (HF.out.below HBB.out)
    have hkk := box1 HFF.out.hk
    have HSR := Aside0.mk (Kd.S_elder' HS.out (v := .slice A1 xs.length c1) (Kd.R_base HOO.out) HBB.out)
    have HKC := Aside0.mk (isKind_c (n : Int) xs kind A1 c1 _ (OI_C HOO.out) (HT.out.below HBB.out))
    rw [hk] at HKC
    go_wp2_with fail
    refine HKC.out.mono ?_
    rintro e w2 ⟨rfl, hb2⟩
    have HBT := Aside0.mk (below_step HBB.out hb2)
    have HX2 := blk_below HXX.out hb2
    obtain ⟨hy0, hy1⟩ := box2 HX2
    have HF2 := Aside0.mk (HF.out.below HBT.out)
    have hoo := box1 HF2.out.ho
    have hof := blk_frozen HF2.out.ho 0
    have HO2 := Aside0.mk (Kd.R_below HOO.out hb2)
    have HS2 := Aside0.mk (Kd.S_below HSR.out hb2)
    clear hb2 HX2
    go_wp2_with (at_builtin; refine appSO (w0 := w0) (base := w0.heap.size) (bad := bad) (.tmp 21) (.tmp 23) rfl rfl vo (.slice A1 xs.length c1) L (n : Int) xs rfl rfl (Kd.R_lower HO2.out HB.out.size) HS2.out (fun k hk hb => by have h1 := Kd.R_base HO2.out k hk; have h2 := HLT.out k hb; omega) (fun k hk => Nat.lt_of_lt_of_le (HLT.out k hk) HBT.out.size) (below_step HB.out HBT.out) (below_step HB.out HBT.out).size (by omega) ?_; intro v3 w3 ho3 hb3 hg3 hv3; obtain ⟨A3, c3, rfl⟩ := Kd.S_slice ho3; rw [show (L ++ [((n : Int), xs)]).length = L.length + 1 by simp] at ho3; have HS3 := Aside0.mk ho3; have HB3 := Aside0.mk hb3; have HF3 := Aside0.mk (HF2.out.grown HS2.out hg3); have hob := box1 HF3.out.ho; have hof3 := blk_frozen HF3.out.ho 0; have HG3 := Aside0.mk hg3; clear ho3 hb3 hg3 hv3)
    (try simp only [Exit.inBlock, Exit.then])
    refine bodyPost_ret (results_none rfl _ _ _) rfl ?_
    refine ⟨rfl, .slice A3 (L.length + 1) c3, HF3.out.put _, ?_, ?_, HB3.out.setCell hbo _, fun k hk1 hk2 => ?_, ?_⟩
    · rw [Ho.out]
      exact Kd.S_set HS3.out HF3.out.ho (by intro q hq; simp [kO, I, Kd.int, Kd.scalar, Kd.pair, Kd.slice] at hq; rcases hq with rfl | rfl <;> decide) 0 _
    · exact OI_farv (Kd.R_over' (Kd.R_below HO.out HBT.out) (Kd.S_typed HS2.out) (by intro q hq; simp [I, Kd.int, Kd.scalar] at hq; subst hq; decide) HG3.out) HF3.out.ho (by decide) _
    · have hkb : k ≠ bo := fun e => HF.out.bo_ (e ▸ hk1)
      rw [Below.heap_setCell w3 ⟨bo, 0, none⟩ _ k hkb, HG3.out.block k (Nat.lt_of_lt_of_le (HLT.out k hk1) HBT.out.size) (fun e => ((Kd.S_R HS.out).1 k e.symm) hk1)]
      exact HBT.out.block k (HLT.out k hk1)
    · have h1 := HBT.out.size
      have h2 := HG3.out.size
      simp only [World.setCell, Array.size_modify] at *
      omega
  · have HXX := Aside0.mk (put2 HZ.out (x := .int .i64 (n : Int)) (y := .slice A1 xs.length c1))
    have HOO : Aside0 (OI ((w1.setCell ⟨w.heap.size, 0, none⟩ (.int .i64 (n : Int))).setCell ⟨w.heap.size, 1, none⟩ (.slice A1 xs.length c1)) w.heap.size (.slice A1 xs.length c1) xs) := ⟨OI_farv (OI_farv (Kd.R_lower HO1.out (size_alloc_le _ _)) HZ.out (by decide) (.int .i64 (n : Int))) (blk_put HZ.out 0 (.int .i64 (n : Int)) rfl) (by decide) (.slice A1 xs.length c1)⟩
    have HBB := Aside0.mk (below_set (j := 1) (v := .slice A1 xs.length c1) (below_set (j := 0) (v := .int .i64 (n : Int)) (below_step (below_drew1 (below_alloc (Below.refl w.heap.size w) (.cells #[.int .i64 0, .slice none 0 0] 34))) HB1.out) (Nat.le_refl _)) (Nat.le_refl _))
    clear hz0 hz1 hz2 hz3
    obtain ⟨hx0, hx1⟩ := box2 HXX.out
    have HFF := Aside0.mk (HF.out.below HBB.out)
    have hkk := box1 HFF.out.hk
    have HSR := Aside0.mk (Kd.S_elder' HS.out (v := .slice A1 xs.length c1) (Kd.R_base HOO.out) HBB.out)
    have HKC := Aside0.mk (isKind_c (n : Int) xs kind A1 c1 _ (OI_C HOO.out) (HT.out.below HBB.out))
    rw [hk] at HKC
    go_wp2_with fail
    refine HKC.out.mono ?_
    rintro e w2 ⟨rfl, hb2⟩
    have HBT := Aside0.mk (below_step HBB.out hb2)
    have HX2 := blk_below HXX.out hb2
    obtain ⟨hy0, hy1⟩ := box2 HX2
    have HF2 := Aside0.mk (HF.out.below HBT.out)
    have hoo := box1 HF2.out.ho
    have hof := blk_frozen HF2.out.ho 0
    have HO2 := Aside0.mk (Kd.R_below HOO.out hb2)
    have HS2 := Aside0.mk (Kd.S_below HSR.out hb2)
    clear hb2 HX2
    go_wp2_with (at_builtin; refine appSO (w0 := w0) (base := w0.heap.size) (bad := bad) (.tmp 21) (.tmp 23) rfl rfl vo (.slice A1 xs.length c1) L (n : Int) xs rfl rfl (Kd.R_lower HO2.out HB.out.size) HS2.out (fun k hk hb => by have h1 := Kd.R_base HO2.out k hk; have h2 := HLT.out k hb; omega) (fun k hk => Nat.lt_of_lt_of_le (HLT.out k hk) HBT.out.size) (below_step HB.out HBT.out) (below_step HB.out HBT.out).size (by omega) ?_; intro v3 w3 ho3 hb3 hg3 hv3; obtain ⟨A3, c3, rfl⟩ := Kd.S_slice ho3; rw [show (L ++ [((n : Int), xs)]).length = L.length + 1 by simp] at ho3; have HS3 := Aside0.mk ho3; have HB3 := Aside0.mk hb3; have HF3 := Aside0.mk (HF2.out.grown HS2.out hg3); have hob := box1 HF3.out.ho; have hof3 := blk_frozen HF3.out.ho 0; have HG3 := Aside0.mk hg3; clear ho3 hb3 hg3 hv3)
    (try simp only [Exit.inBlock, Exit.then])
    refine bodyPost_ret (results_none rfl _ _ _) rfl ?_
    refine ⟨rfl, .slice A3 (L.length + 1) c3, HF3.out.put _, ?_, ?_, HB3.out.setCell hbo _, fun k hk1 hk2 => ?_, ?_⟩
    · rw [Ho.out]
      exact Kd.S_set HS3.out HF3.out.ho (by intro q hq; simp [kO, I, Kd.int, Kd.scalar, Kd.pair, Kd.slice] at hq; rcases hq with rfl | rfl <;> decide) 0 _
    · exact OI_farv (Kd.R_over' (Kd.R_below HO.out HBT.out) (Kd.S_typed HS2.out) (by intro q hq; simp [I, Kd.int, Kd.scalar] at hq; subst hq; decide) HG3.out) HF3.out.ho (by decide) _
    · have hkb : k ≠ bo := fun e => HF.out.bo_ (e ▸ hk1)
      rw [Below.heap_setCell w3 ⟨bo, 0, none⟩ _ k hkb, HG3.out.block k (Nat.lt_of_lt_of_le (HLT.out k hk1) HBT.out.size) (fun e => ((Kd.S_R HS.out).1 k e.symm) hk1)]
      exact HBT.out.block k (HLT.out k hk1)
    · have h1 := HBT.out.size
      have h2 := HG3.out.size
      simp only [World.setCell, Array.size_modify] at *
      omega
-- ENDS
end Go.Proofs.YtgffgmfjoepjoaaDoor.M
