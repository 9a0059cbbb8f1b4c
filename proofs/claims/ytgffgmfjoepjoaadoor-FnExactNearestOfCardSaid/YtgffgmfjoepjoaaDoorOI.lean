/- The orders of a kind: the reference's list. -/
import Derived.Test.YtgffgmfjoepjoaaDoorOH
import Derived.Test.YtgffgmfjoepjoaaDoorC3
set_option linter.unusedVariables false
set_option linter.unusedSimpArgs false
namespace Go.Proofs.YtgffgmfjoepjoaaDoor.M
open Go.RowKit Go.Proofs.YtgffgmfjoepjoaaDoorW.PrintWords
/-- append(v, u..), orders; u was made later than v. -/
theorem appRO {ops : Array Oper} {rest : List Oper} {o : Oper} {a : Act} {Q : Exit → Act → World → Prop} {w0 W : World} {base : Nat} (s x : Operand) (hgd : o.guard = none)
    (ho : o.op = .call { callee := .builtin .append, args := #[s, x], argTypes := #[25, 25] }) (v : Value) (A : Option Addr) (m c N : Nat) (xs ys : List Ord) (hs : a.eval s = v) (hx : a.eval x = .slice A m c)
    (HO : RO W base v xs) (HU : RO W N (.slice A m c) ys) (hN : ∀ k, v.ownBlock = some k → k < N) (hbN : base ≤ N) (HB : Below base w0 W) (hbase : base ≤ W.heap.size) (hl : xs.length + ys.length ≤ 1000000000)
    (h : ∀ v1 w1, RO w1 base v1 (xs ++ ys) → Below base w0 w1 → wpList Tryd.prog ops Q rest (a.put o.dst v1) w1) :
    wpList Tryd.prog ops Q (o :: rest) a W := by
  obtain ⟨A', c', he, _, hr⟩ := OwnRow.reads (Kd.R_lower (Kd.R_bound HU) hbN).2
  injection he with h1 h2 h3
  subst h1 h2
  refine Kd.R_append_rows kO (w0 := w0) base hgd s x 25 34 _ 32 ho Tryd.underlying25 infoO rfl (by decide) (by omega) v xs ys A ys.length c T (fun k => N ≤ k) hs hx HO hr (fun x cs hM => kO.M_mono (fun k hk => hk.1.2.1) hM) (fun k hk => ⟨trivial, fun e => by have := hN k e.symm; omega⟩) (fun _ _ => trivial) HB hbase (by omega) ?_
  exact fun v1 w1 h1 h2 h3 _ => h v1 w1 h1 h2
def CfC (n : Nat) (kind : Int) (d : Nat) : Prop := ∀ (xs : List Int) (A : Option Addr) (m c : Nat) (w : World), xs.length = m → m + d = n → I.C w A m xs →
    Calls Tryd.prog 85 #[.int .i64 (n : Int), .slice A m c, .int .i64 kind] w fun e w' => ∃ v, e = .returned v ∧ RO w' w.heap.size v (ords n kind d xs) ∧ Below w.heap.size w w'
set_option maxHeartbeats 1600000 in
set_option maxRecDepth 100000 in
theorem cf_step (n : Nat) (hn : n ≤ 4) (kind : Int) (d : Nat) (ih : ∀ e, e + 1 = d → CfC n kind e) : CfC n kind d := by
  intro xs A m c w hm hd hr
  subst hm
  have HR := Aside0.mk hr
  have IH := Aside0.mk ih
  clear hr ih
  cases d with
  | zero =>
    have hq : ((xs.length : Int) == (n : Int)) = true := by simp; omega
    cases hk : kindB n xs kind
    · have HK := Aside0.mk hk
      have Ho : Aside0 (ords n kind 0 xs = []) := ⟨by rw [ords, hk]; rfl⟩
      have HKC := Aside0.mk (cfKind_c n xs kind)
      rw [hk] at HKC
      clear hk
      go_enter Tryd.func85, Tryd.ntmps85
      go_wp2_with fail
      refine (l1Own_c xs A c _ HR.out (by omega)).mono ?_
      rintro e w1 ⟨v1, rfl, ho1, hb1⟩
      obtain ⟨A1, c1, rfl, _⟩ := OI_shape ho1
      have hB2 := Aside0.mk (below_alloc hb1 (.cells #[.int .i64 (n : Int), .slice A1 xs.length c1] 34))
      have HO1 := Aside0.mk (Kd.C_alloc (OI_C ho1) (.cells #[.int .i64 (n : Int), .slice A1 xs.length c1] 34))
      clear ho1 hb1
      go_wp2_with fail
      refine (HKC.out A1 c1 _ HO1.out).mono ?_
      rintro e w2 ⟨rfl, hb2⟩
      go_wp2
      go_ret
      exact ⟨_, rfl, by rw [Ho.out]; exact RO_nil _ _, below_step hB2.out hb2⟩
    · have Ho : Aside0 (ords n kind 0 xs = [((n : Int), xs)]) := ⟨by rw [ords, hk]; rfl⟩
      have HKC := Aside0.mk (cfKind_c n xs kind)
      rw [hk] at HKC
      clear hk
      go_enter Tryd.func85, Tryd.ntmps85
      go_wp2_with fail
      refine (l1Own_c xs A c _ HR.out (by omega)).mono ?_
      rintro e w1 ⟨v1, rfl, ho1, hb1⟩
      obtain ⟨A1, c1, rfl, _⟩ := OI_shape ho1
      have hB2 := Aside0.mk (below_alloc hb1 (.cells #[.int .i64 (n : Int), .slice A1 xs.length c1] 34))
      have hX := Aside0.mk (blk_new w1 (.cells #[.int .i64 (n : Int), .slice A1 xs.length c1] 34))
      have HO1 := Aside0.mk (Kd.R_alloc ho1 (.cells #[.int .i64 (n : Int), .slice A1 xs.length c1] 34))
      clear ho1 hb1
      go_wp2_with fail
      refine (HKC.out A1 c1 _ (OI_C HO1.out)).mono ?_
      rintro e w2 ⟨rfl, hb2⟩
      have HB3 := Aside0.mk (below_step hB2.out hb2)
      have HO2 := Aside0.mk (Kd.R_below HO1.out hb2)
      obtain ⟨hx0, hx1⟩ := box2 (blk_below hX.out hb2)
      clear hb2
      go_wp2
      go_ret
      exact ⟨_, rfl, by rw [Ho.out]; exact RO_one HB3.out.size HO2.out, below_alloc HB3.out _⟩
  | succ d =>
    have hq : ((xs.length : Int) == (n : Int)) = false := by simp; omega
    have IH2 := Aside0.mk (IH.out d rfl)
    obtain ⟨q, HQ, hq1, hq2, hq3⟩ := pow10 (n := n) (by omega)
    have hw1 : IntKind.i64.wrap q = q := by rw [IntKind.wrap_i64]; omega
    clear IH
    go_enter Tryd.func85, Tryd.ntmps85
    go_wp2
    go_loopw [8, 9] (fun v i wr => ∃ k : Nat, (k : Int) ≤ q ∧ i = .int .i64 k ∧ Aside0 (RO wr w.heap.size v (ordsTo n kind d xs k)) ∧ Aside0 (Below w.heap.size w wr)) (fun _ i _ => q.toNat - (intOf i).toNat)
    case atStart => exact ⟨0, by omega, rfl, ⟨RO_nil _ _⟩, ⟨Below.refl _ _⟩⟩
    case round =>
      obtain ⟨k, hk, rfl, HO, HB⟩ := hrel
      by_cases hlt : (k : Int) < q
      · cases hb : has k xs.length
        · have Ho := Aside0.mk (ordsTo_no (n := n) (kind := kind) (d := d) hb)
          have Hb := Aside0.mk hb
          have hl1 := ords_len hn kind d (xs ++ [(k : Int)])
          have hl2 : (ordsTo n kind d xs k).length ≤ k * 16 ^ d := ordsTo_len hn kind d xs k
          have h16 : 16 ^ d ≤ 65536 := by
            have : (16 : Nat) ^ d ≤ 16 ^ 4 := Nat.pow_le_pow_right (by decide) (by omega)
            omega
          have hl3 : k * 16 ^ d ≤ 1024 * 65536 := Nat.mul_le_mul (by omega) h16
          have Hl : Aside0 ((ordsTo n kind d xs k).length + (ords n kind d (xs ++ [(k : Int)])).length ≤ 1000000000) := ⟨by omega⟩
          clear hb hl1 hl2 hl3 h16
          go_wp2_with fail
          refine (orHas_b Hb.out _ (by omega) (by omega) (by omega)).mono ?_
          rintro e w1 ⟨rfl, rfl⟩
          go_wp2_with fail
          refine (l1Own_c xs A c _ (Kd.C_below HR.out HB.out) (by omega)).mono ?_
          rintro e w2 ⟨v2, rfl, ho2, hb2⟩
          have HO2 := Aside0.mk ho2
          have HS2 := Aside0.mk hb2
          clear ho2 hb2
          go_wp2_with (at_builtin; refine appI (.tmp 37) (.tmp 39) rfl rfl _ xs _ rfl rfl HO2.out HS2.out HS2.out.size (by omega) ?_; intro v3 w3 ho3 hb3 _; obtain ⟨ad3, c3, rfl, ho3⟩ := OI_snoc ho3; have HO3 := Aside0.mk ho3; have HS3 := Aside0.mk hb3; clear ho3 hb3)
          have hc := IH2.out (xs ++ [(k : Int)]) (some ad3) (xs.length + 1) c3 w3 (by simp) (by omega) (OI_C HO3.out)
          refine hc.mono ?_
          rintro e w4 ⟨v4, rfl, ho4, hb4⟩
          obtain ⟨A4, c4, rfl, _⟩ := Kd.R_reads ho4
          have HO4 := Aside0.mk ho4
          have HS4 := Aside0.mk (below_step HS3.out hb4)
          have HB4 := Aside0.mk (below_step HB.out HS4.out)
          have HP4 := Aside0.mk (Kd.R_below HO.out HS4.out)
          have HN := Aside0.mk (fun q hq => Nat.lt_of_lt_of_le (Kd.R_lt HO.out q hq) HS3.out.size)
          have hbs := (below_step HB.out HS3.out).size
          clear hc ho4 hb4
          go_wp2_with (at_builtin; refine appRO (.tmp 34) (.tmp 42) rfl rfl _ _ _ _ w3.heap.size (ordsTo n kind d xs k) _ rfl rfl HP4.out HO4.out HN.out hbs HB4.out HB4.out.size Hl.out ?_; intro v5 w5 ho5 hb5; have HO5 := Aside0.mk ho5; have HB5 := Aside0.mk hb5; clear ho5 hb5)
          go_roundw
          case rel => exact ⟨k + 1, by omega, by go_num, by rw [Ho.out]; exact HO5, HB5⟩
          case measure => simp [intOf]; omega
        · have Ho := Aside0.mk (ordsTo_yes (n := n) (kind := kind) (d := d) hb)
          have Hb := Aside0.mk hb
          clear hb
          go_wp2_with fail
          refine (orHas_b Hb.out _ (by omega) (by omega) (by omega)).mono ?_
          rintro e w1 ⟨rfl, rfl⟩
          go_wp2
          go_roundw
          case rel => exact ⟨k + 1, by omega, by go_num, by rw [Ho.out]; exact HO, HB⟩
          case measure => simp [intOf]; omega
      · have hk2 : k = 2 ^ n := by
          have h1 : (k : Int) = 2 ^ n := by rw [← HQ.out]; omega
          exact_mod_cast h1
        have Hk2 := Aside0.mk hk2
        clear hk2
        go_wp2
        go_ret
        exact ⟨_, rfl, by rw [ords_succ, ← Hk2.out]; exact HO.out, HB.out⟩
theorem cfOrders_c (n : Nat) (hn : n ≤ 4) (kind : Int) : ∀ d, CfC n kind d
  | 0 => cf_step n hn kind 0 (fun e h => by omega)
  | d + 1 => cf_step n hn kind (d + 1) (fun e h => (show d = e by omega) ▸ cfOrders_c n hn kind d)
end Go.Proofs.YtgffgmfjoepjoaaDoor.M
