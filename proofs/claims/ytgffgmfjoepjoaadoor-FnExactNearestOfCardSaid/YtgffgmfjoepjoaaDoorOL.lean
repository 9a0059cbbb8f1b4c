/- The closure's search. -/
import Derived.Test.YtgffgmfjoepjoaaDoorOK
set_option linter.unusedVariables false
set_option linter.unusedSimpArgs false
namespace Go.Proofs.YtgffgmfjoepjoaaDoor.M
open Go.RowKit Go.Proofs.YtgffgmfjoepjoaaDoorW.PrintWords
structure St (n : Nat) (kind : Int) (bad : Nat → Prop) (bn bk bo bf : Nat) (w0 w : World) (vo : Value) (L : List Ord) (g m c : Nat) (xs : List Int) : Prop where
  fb : FB n kind bad bn bk bo bf vo w
  so : SO w w0.heap.size (fun k => ¬ bad k) vo L
  oi : OI w w0.heap.size (.slice (some ⟨g, 0, none⟩) m c) xs
  be : Below w0.heap.size w0 w
  lt : ∀ k, bad k → k < w.heap.size
theorem St.drew {n : Nat} {kind : Int} {bad : Nat → Prop} {bn bk bo bf : Nat} {w0 w : World} {vo : Value} {L : List Ord} {g m c : Nat} {xs : List Int} (h : St n kind bad bn bk bo bf w0 w vo L g m c xs) : St n kind bad bn bk bo bf w0 w.drew vo L g m c xs :=
  ⟨h.fb.below (below_drew1 (Below.refl _ _)), Kd.S_drew h.so, Kd.R_drew h.oi, below_drew1 h.be, h.lt⟩
theorem fill_call {n : Nat} {kind : Int} {d : Nat} {xs : List Int} {k : Nat} (ih : FillCx n kind d (xs ++ [(k : Int)])) {bad : Nat → Prop} {bn bk bo bf : Nat} {w0 W w1 : World} {vo : Value} {L : List Ord} {g m c g1 c1 : Nat}
    (hT : DB w0) (h : St n kind bad bn bk bo bf w0 W vo L g m c xs) (hm : xs.length = m) (hmd : m + 1 + d = n) (hg : bad g) (hne1 : bn ≠ g) (hne2 : bk ≠ g) (hne3 : bf ≠ g) (hbo : w0.heap.size ≤ bo) (hl : L.length + 16 ^ d ≤ 1000000)
    (ho : OI w1 w0.heap.size (.slice (some ⟨g1, 0, none⟩) (m + 1) c1) (xs ++ [(k : Int)])) (hor : g1 = g ∨ W.heap.size ≤ g1) (hc : g1 = g → c1 = c) (hb : Below w0.heap.size w0 w1) (hgr : W.grownBy w1 (some g)) (hgr' : g1 ≠ g → W.grownBy w1 none) :
    Calls Tryd.prog 157 #[.slice (some ⟨g1, 0, none⟩) (m + 1) c1, .pointer (some ⟨bn, 0, none⟩), .pointer (some ⟨bk, 0, none⟩), .pointer (some ⟨bo, 0, none⟩), .pointer (some ⟨bf, 0, none⟩)] w1 fun e w' =>
      e = .returned (.tuple #[]) ∧ ∃ vo', Aside0 (St n kind bad bn bk bo bf w0 w' vo' (L ++ ords n kind d (xs ++ [(k : Int)])) g m c xs) ∧ Aside0 (∀ k, bad k → k ≠ g → w'.heap[k]? = W.heap[k]?) ∧ Aside0 (W.heap.size ≤ w'.heap.size) := by
  by_cases hgg : g1 = g
  · subst hgg
    obtain rfl := hc rfl
    have hn1 : ∀ {b : Nat}, b ≠ g1 → some b ≠ some g1 := fun h e => h (by injection e)
    have hbog : bo ≠ g1 := fun e => h.fb.bo_ (e ▸ hg)
    refine (ih w0 bad g1 (m + 1) c1 bn bk bo bf vo L w1 hT (by simp [hm]) hmd ho hb hg (fun k hk => Nat.lt_of_lt_of_le (h.lt k hk) hgr.size) hne1 hne2 hne3 hbo
      ⟨blk_grown h.fb.hn hgr (hn1 hne1), blk_grown h.fb.hk hgr (hn1 hne2), blk_grown h.fb.ho hgr (hn1 hbog), blk_grown h.fb.hf hgr (hn1 hne3), h.fb.bn_, h.fb.bk_, h.fb.bf_, h.fb.bo_⟩
      (Kd.S_grown h.so hgr (fun k hk e => hk (by injection e with e; exact e ▸ hg))) hl).mono ?_
    rintro e w' ⟨rfl, vo', hfb, hso, hoi, hbe, hfr, hsz⟩
    refine ⟨rfl, vo', ⟨hfb, hso, OI_front hoi hm, hbe, fun k hk => Nat.lt_of_lt_of_le (h.lt k hk) (Nat.le_trans hgr.size hsz)⟩, ⟨fun k hk hne => ?_⟩, ⟨Nat.le_trans hgr.size hsz⟩⟩
    rw [hfr k hk hne]
    exact hgr.block k (h.lt k hk) (hn1 hne)
  · have hge : W.heap.size ≤ g1 := hor.resolve_left hgg
    have hg2 := hgr' hgg
    obtain ⟨_, _, _, _, cur, hcur, _, _⟩ := OI_row ho
    have hbl : ∀ {b : Nat}, bad b → b ≠ g1 := fun hb e => by have := h.lt _ hb; omega
    refine (ih w0 (fun k => bad k ∨ k = g1) g1 (m + 1) c1 bn bk bo bf vo L w1 hT (by simp [hm]) hmd ho hb (.inr rfl) (fun k hk => ?_) (hbl h.fb.bn_) (hbl h.fb.bk_) (hbl h.fb.bf_) hbo
      ⟨blk_grown h.fb.hn hg2 (by simp), blk_grown h.fb.hk hg2 (by simp), blk_grown h.fb.ho hg2 (by simp), blk_grown h.fb.hf hg2 (by simp), .inl h.fb.bn_, .inl h.fb.bk_, .inl h.fb.bf_, fun e => ?_⟩
      (Kd.S_mono (Kd.S_grown (Kd.S_bound h.so) hg2 (fun k _ => by simp)) (fun k hk e => ?_)) hl).mono ?_
    · rcases hk with hk | rfl
      · exact Nat.lt_of_lt_of_le (h.lt k hk) hg2.size
      · exact blk_lt hcur
    · rcases e with e | e
      · exact h.fb.bo_ e
      · have := blk_lt h.fb.ho; omega
    · rcases e with e | e
      · exact hk.1 e
      · have := hk.2.2.1; omega
    rintro e w' ⟨rfl, vo', hfb, hso, hoi, hbe, hfr, hsz⟩
    have hfr2 : ∀ k, bad k → w'.heap[k]? = W.heap[k]? := fun k hk => (hfr k (.inl hk) (hbl hk)).trans (hg2.block k (h.lt k hk) (by simp))
    refine ⟨rfl, vo', ⟨⟨hfb.hn, hfb.hk, hfb.ho, hfb.hf, h.fb.bn_, h.fb.bk_, h.fb.bf_, h.fb.bo_⟩, Kd.S_mono hso (fun k hk e => hk (.inl e)), ?_, hbe, fun k hk => Nat.lt_of_lt_of_le (h.lt k hk) (Nat.le_trans hg2.size hsz)⟩, ⟨fun k hk _ => hfr2 k hk⟩, ⟨Nat.le_trans hg2.size hsz⟩⟩
    obtain ⟨r1, r2, r3, r4, cur0, r5, r6, r7⟩ := OI_row h.oi
    subst r1
    exact OI_mk r2 ((hfr2 g hg).trans r5) r3 r4 r6 r7
set_option maxHeartbeats 1600000 in
set_option maxRecDepth 100000 in
theorem fill_step (n : Nat) (hn : n ≤ 4) (kind : Int) (d : Nat) (ih : FillC n kind d) (xs : List Int) : FillCx n kind (d + 1) xs := by
  intro w0 bad g m c bn bk bo bf vo L w hT hm hd hxs hB hg hlt hne1 hne2 hne3 hbo hFB hS hL
  have HT := Aside0.mk hT
  have HI := Aside0.mk ih
  have HG := Aside0.mk hg
  have HM := Aside0.mk hm
  have HS := Aside0.mk (St.mk (n := n) (kind := kind) (L := L) (xs := xs) hFB hS hxs hB hlt)
  have hq : ((m : Int) == (n : Int)) = false := by simp; omega
  have hcn := box1 hFB.hn
  obtain ⟨q, HQ, hq1, hq2, hq3⟩ := pow10 (n := n) (by omega)
  have hw1 : IntKind.i64.wrap q = q := by rw [IntKind.wrap_i64]; omega
  have h16 : 16 ^ (d + 1) = 16 * 16 ^ d := by rw [Nat.pow_succ, Nat.mul_comm]
  have hn16 : 2 ^ n ≤ 16 := by
    have : 2 ^ n ≤ 2 ^ 4 := Nat.pow_le_pow_right (by decide) hn
    omega
  have HLN : Aside0 (∀ k : Nat, k < 2 ^ n → (L ++ ordsTo n kind d xs k).length + 16 ^ d ≤ 1000000) := ⟨fun k hk => by
    have h1 := ordsTo_len hn kind d xs k
    have h2 : (k + 1) * 16 ^ d ≤ 16 * 16 ^ d := Nat.mul_le_mul_right _ (by omega)
    rw [Nat.succ_mul] at h2
    rw [List.length_append]
    omega⟩
  clear hxs hB hS hFB hT hlt hg ih hm h16 hn16 hL
  go_enter Tryd.func157, Tryd.ntmps157
  go_wp2
  go_loopw [27] (fun i wr => ∃ k : Nat, (k : Int) ≤ q ∧ i = .int .i64 k ∧ ∃ vo', Aside0 (St n kind bad bn bk bo bf w0 wr vo' (L ++ ordsTo n kind d xs k) g m c xs) ∧ Aside0 (∀ j, bad j → j ≠ g → wr.heap[j]? = w.heap[j]?) ∧ Aside0 (w.heap.size ≤ wr.heap.size)) (fun i _ => q.toNat - (intOf i).toNat)
  case atStart => exact ⟨0, by omega, rfl, vo, ⟨by simpa [ordsTo] using HS.out⟩, ⟨fun _ _ _ => rfl⟩, ⟨Nat.le_refl _⟩⟩
  case round =>
    clear hcn
    obtain ⟨k, hk, rfl, vo', HR, HF, HZ⟩ := hrel
    by_cases hlt : (k : Int) < q
    · have hkn : k < 2 ^ n := by
        have h1 : (k : Int) < 2 ^ n := by rw [← HQ.out]; exact hlt
        exact_mod_cast h1
      have hd := div_le_self (x := (k : Int)) (by omega) m
      have ha := and1 hd.1 (by omega)
      have hw2 : IntKind.i64.wrap ((k : Int) / 2 ^ m) = (k : Int) / 2 ^ m := by rw [IntKind.wrap_i64]; omega
      cases hb : has k m
      · have Ho := Aside0.mk (ordsTo_no (n := n) (kind := kind) (d := d) (xs := xs) (k := k) (by rw [HM.out]; exact hb))
        have hh : (((k : Int) / 2 ^ m % 2) == 0) = true := by
          rw [has, Int.toNat_natCast] at hb
          simp at hb ⊢
          omega
        have HL1 := Aside0.mk (HLN.out k hkn)
        have hcf := box1 HR.out.fb.hf
        clear hb hkn
        go_wp2
        have HRd := Aside0.mk HR.out.drew
        have hgb : some bf ≠ some g := fun e => hne3 (by injection e)
        go_region_held3 (fun w' => w'.cell? ⟨bf, 0, none⟩ = some (.func (.func 157) #[] #[.pointer (some ⟨bn, 0, none⟩), .pointer (some ⟨bk, 0, none⟩), .pointer (some ⟨bo, 0, none⟩), .pointer (some ⟨bf, 0, none⟩)])) (first | exact hcf | exact HC1.out | exact box1 HR2.out.fb.hf | exact box1 (blk_alloc HRd.out.fb.hf _) | exact box1 HRd.out.fb.hf)
          (first | (refine appK_step (w0 := w0) (base := w0.heap.size) (.tmp 36) (.tmp 38) rfl rfl xs (k : Int) rfl rfl HRd.out.oi HRd.out.be HRd.out.be.size (by omega) ?_; intro g1 c1 w1 ho1 hor1 hc1 hb1 hg1 hg1'; have HC := Aside0.mk (fill_call (HI.out (xs ++ [(k : Int)])) HT.out HRd.out HM.out (by omega) HG.out hne1 hne2 hne3 hbo HL1.out ho1 hor1 hc1 hb1 hg1 hg1'); have HC1 := Aside0.mk (box1 (blk_grown HRd.out.fb.hf hg1 hgb)); clear ho1 hor1 hc1 hb1 hg1 hg1') | (go_at_call 157; with_reducible refine HC.out.mono ?_; rintro e w2 ⟨rfl, vo2, HR2, HF2, HZ2⟩))
        go_wp2
        go_roundw
        case rel => exact ⟨k + 1, by omega, by go_num, vo2, by rw [Ho.out, ← List.append_assoc]; exact HR2, ⟨fun j h1 h2 => (HF2.out j h1 h2).trans (HF.out j h1 h2)⟩, ⟨Nat.le_trans HZ.out HZ2.out⟩⟩
        case measure => simp [intOf]; omega
      · have Ho := Aside0.mk (ordsTo_yes (n := n) (kind := kind) (d := d) (xs := xs) (k := k) (by rw [HM.out]; exact hb))
        have hh : (((k : Int) / 2 ^ m % 2) == 0) = false := by
          rw [has, Int.toNat_natCast] at hb
          simp at hb ⊢
          omega
        clear hb hkn
        go_wp2
        go_roundw
        case rel => exact ⟨k + 1, by omega, by go_num, vo', by rw [Ho.out]; exact HR, HF, HZ⟩
        case measure => simp [intOf]; omega
    · have hk2 : k = 2 ^ n := by
        have h1 : (k : Int) = 2 ^ n := by rw [← HQ.out]; omega
        exact_mod_cast h1
      have Hk2 := Aside0.mk hk2
      clear hk2
      go_wp2
      (try simp only [Exit.inBlock, Exit.then])
      refine bodyPost_end (results_none rfl _ _ _) rfl ?_
      refine ⟨rfl, vo', HR.out.fb, ?_, HR.out.oi, HR.out.be, HF.out, HZ.out⟩
      rw [ords_succ, ← Hk2.out]
      exact HR.out.so
theorem fill_c (n : Nat) (hn : n ≤ 4) (kind : Int) : ∀ d, FillC n kind d
  | 0 => fun xs => by
    cases hk : kindB n xs kind
    · exact fill_zero0 n hn kind xs hk
    · exact fill_zero1 n hn kind xs hk
  | d + 1 => fun xs => fill_step n hn kind d (fill_c n hn kind d) xs
end Go.Proofs.YtgffgmfjoepjoaaDoor.M
