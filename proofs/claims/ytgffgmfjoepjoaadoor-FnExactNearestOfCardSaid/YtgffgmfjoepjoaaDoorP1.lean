/- Lists of orders: held, alike, marked (the law's helpers). -/
import Derived.Test.YtgffgmfjoepjoaaDoorOM
import Derived.Test.YtgffgmfjoepjoaaDoorL1
set_option linter.unusedVariables false
set_option linter.unusedSimpArgs false
namespace Go.Proofs.YtgffgmfjoepjoaaDoor.M
open Go.RowKit Go.Proofs.YtgffgmfjoepjoaaDoorW.PrintWords
def mkON : List Ord → Nat
  | [] => 0
  | t :: ts => 1 + t.2.length + mkON ts
def mkOL : Int → List Ord → List Ord
  | _, [] => []
  | n, t :: ts => (n, cnt (n + 1) t.2.length) :: mkOL (n + (1 + t.2.length : Nat)) ts
theorem mkON_snoc (x : Ord) : ∀ ts, mkON (ts ++ [x]) = mkON ts + (1 + x.2.length)
  | [] => by simp [mkON]
  | t :: ts => by rw [List.cons_append, mkON, mkON, mkON_snoc x ts]; omega
theorem mkOL_snoc (x : Ord) : ∀ ts (n : Int), mkOL n (ts ++ [x]) = mkOL n ts ++ [(n + mkON ts, cnt (n + mkON ts + 1) x.2.length)]
  | [], n => by simp [mkOL, mkON]
  | t :: ts, n => by
    rw [List.cons_append, mkOL, mkOL, mkOL_snoc x ts, mkON, List.cons_append]
    rw [show n + ((1 + t.2.length : Nat) : Int) + (mkON ts : Int) = n + ((1 + t.2.length + mkON ts : Nat) : Int) by omega]
theorem mkOL_len : ∀ ts (n : Int), (mkOL n ts).length = ts.length
  | [], _ => rfl
  | t :: ts, n => by rw [mkOL, List.length_cons, List.length_cons, mkOL_len ts]
theorem mkON_take {ts : List Ord} : ∀ j, mkON (ts.take j) ≤ mkON ts := by
  induction ts with
  | nil => intro j; simp
  | cons t ts ih =>
    intro j
    cases j with
    | zero => simp [mkON]
    | succ j => rw [List.take_succ_cons, mkON, mkON]; have := ih j; omega
theorem takeO_snoc {ts : List Ord} {j : Nat} (h : j < ts.length) : ts.take (j + 1) = ts.take j ++ [rdO ts j] := by
  rw [List.take_succ_eq_append_getElem h]
  simp [rdO, h]
theorem mkOL_set {ts : List Ord} {n : Int} {j : Nat} (h : j < ts.length) :
    (mkOL n (ts.take j) ++ ts.drop j).set j (n + mkON (ts.take j), cnt (n + mkON (ts.take j) + 1) (rdO ts j).2.length) = mkOL n (ts.take (j + 1)) ++ ts.drop (j + 1) := by
  have hl : (mkOL n (ts.take j)).length = j := by rw [mkOL_len, List.length_take]; omega
  rw [List.set_append_right _ _ (by omega), hl, Nat.sub_self, List.drop_eq_getElem_cons h, List.set_cons_zero, takeO_snoc h, mkOL_snoc, List.append_assoc]
  rfl
theorem mkOL_rd {ts : List Ord} {n : Int} {j : Nat} (h : j < ts.length) : rdO (mkOL n (ts.take j) ++ ts.drop j) j = rdO ts j := by
  have hl : (mkOL n (ts.take j)).length = j := by rw [mkOL_len, List.length_take]; omega
  simp only [rdO, List.getD_eq_getElem?_getD]
  rw [List.getElem?_append_right (by omega), hl, Nat.sub_self, List.getElem?_drop, Nat.add_zero]
abbrev STO (w : World) (base : Nat) (v : Value) (ts : List Ord) : Prop := Kd.S kO 34 w base T v ts
theorem STO_C {w : World} {b : Nat} {A : Option Addr} {n c : Nat} {ts : List Ord} (h : STO w b (.slice A n c) ts) : Kd.C kO w A n ts := by
  have := Kd.S_reads' h
  rw [this.1] at *
  exact this.2.2
open Classical in
theorem STO_mark {w : World} {base g n cap : Nat} {ts : List Ord} (h : STO w base (.slice (some ⟨g, 0, none⟩) n cap) ts) (j : Nat) (hj : j < n) :
    ∃ v, w.cell? ⟨g, j * 2, none⟩ = some (.int .i64 (rdO ts j).1) ∧ w.cell? ⟨g, j * 2 + 1, none⟩ = some v ∧ OI w base v (rdO ts j).2 ∧ base ≤ g ∧
      (∀ x w1 ys, (w.setCell ⟨g, j * 2, none⟩ (.int .i64 x)).grownBy w1 v.ownBlock → OI w1 base v ys → STO w1 base (.slice (some ⟨g, 0, none⟩) n cap) (ts.set j (x, ys))) := by
  have hgb := Kd.S_base h g rfl
  obtain ⟨oki, c, hcl, hM, hcc, hfr, hoki, hH⟩ := Kd.S_elem h zO (j : Int) (by omega) (by omega)
  rw [Int.toNat_natCast] at hM hcc hfr
  obtain ⟨v, rfl, hv⟩ := kO_openM hM
  refine ⟨v, hcc 0 _ rfl, hcc 1 _ rfl, Kd.R_mono hv (fun _ _ => trivial), hgb, fun x w1 ys hg ho => ?_⟩
  have hg0 := fun k hk => (hoki k hk).2
  obtain ⟨h1, h2⟩ := Kd.H_seg hH (by omega) (by omega) (seg := [.int .i64 x]) (j := 0) (by show 0 + 1 ≤ 2; omega) (by simp [Value.oneCell'])
  rw [Int.toNat_natCast] at h1 h2
  have h3 := Kd.H_grown (w1 := w1) h1 (row := v.ownBlock) hg (fun k hk => hv.1 k hk)
  have := Kd.H_back h3 (x' := (x, ys)) (okp := fun k => some k = v.ownBlock) (kO_mkM (x, ys) (Kd.R_tight rfl ho)) (fun k hk => hv.1 k hk.symm)
  rwa [Int.toNat_natCast] at this
theorem mkOL_at : ∀ {ts : List Ord} {j : Nat} (n : Int), j < ts.length → rdO (mkOL n ts) j = (n + mkON (ts.take j), cnt (n + mkON (ts.take j) + 1) (rdO ts j).2.length)
  | [], j, n, h => by simp at h
  | t :: ts, 0, n, h => by simp [mkOL, rdO, mkON]
  | t :: ts, j + 1, n, h => by
    have := mkOL_at (ts := ts) (j := j) (n + (1 + t.2.length : Nat)) (by simpa using h)
    rw [show rdO (mkOL n (t :: ts)) (j + 1) = rdO (mkOL (n + (1 + t.2.length : Nat)) ts) j from rfl, this, List.take_succ_cons, mkON, show n + ((1 + t.2.length : Nat) : Int) + (mkON (ts.take j) : Int) = n + ((1 + t.2.length + mkON (ts.take j) : Nat) : Int) by omega]
    rfl
theorem mkON_step {ts : List Ord} {j : Nat} (h : j < ts.length) : mkON (ts.take (j + 1)) = mkON (ts.take j) + (1 + (rdO ts j).2.length) := by rw [takeO_snoc h, mkON_snoc]
set_option maxHeartbeats 800000 in
set_option maxRecDepth 100000 in
theorem heldOrderS_c (ts : List Ord) (A : Option Addr) (c : Nat) (n : Int) (w : World) (hr : Kd.C kO w A ts.length (mkOL n ts)) (h0 : 0 ≤ n) (h1 : n + mkON ts ≤ 1000000000) (hl : ts.length ≤ 1000000000) :
    Calls Tryd.prog 18 #[.slice A ts.length c, .int .i64 n] w fun e w' => e = .returned (.int .i64 (n + mkON ts)) ∧ w' = w := by
  have HR := Aside0.mk hr
  clear hr
  go_enter Tryd.func18, Tryd.ntmps18
  go_wp2
  go_loopw [1, 5] (fun q i wr => ∃ j : Nat, j ≤ ts.length ∧ i = .int .i64 j ∧ q = .int .i64 (n + mkON (ts.take j)) ∧ wr = w) (fun _ i _ => ts.length - (intOf i).toNat)
  case atStart => exact ⟨0, Nat.zero_le _, rfl, by simp [mkON], rfl⟩
  case round =>
    obtain ⟨j, hj, rfl, rfl, rfl⟩ := hrel
    by_cases hlt : j < ts.length
    · obtain ⟨ad, A', c', rfl, hx0, hx1, _, hC⟩ := at_O HR.out j hlt
      rw [mkOL_at n hlt] at hx0 hx1 hC
      have hm := mkON_take (ts := ts) (j + 1)
      have HM := Aside0.mk (mkON_step hlt)
      have hm1 := mkON_take (ts := ts) j
      have hl1 : (rdO ts j).2.length ≤ mkON ts := by have := HM.out; omega
      have hsum : n + mkON (ts.take j) + (rdO ts j).2.length + 1 ≤ n + mkON ts := by have := HM.out; omega
      obtain ⟨K, hK, HK⟩ : ∃ K : Int, n + mkON (ts.take j) = K ∧ Aside0 (n + mkON (ts.take j) = K) := ⟨_, rfl, ⟨rfl⟩⟩
      rw [hK] at hx0 hx1 hC hsum ⊢
      have hK0 : 0 ≤ K := by omega
      obtain ⟨L, hL, HL⟩ : ∃ L : Nat, (rdO ts j).2.length = L ∧ Aside0 ((rdO ts j).2.length = L) := ⟨_, rfl, ⟨rfl⟩⟩
      rw [hL] at hx1 hC hsum hl1
      have hcl : (cnt (K + 1) L).length ≤ 1000000000 := by rw [cnt_len]; omega
      have HC := Aside0.mk hC
      have Hh := Aside0.mk (held_cnt (K + 1) L)
      clear hK hL hm hm1 hC
      go_wp2_with fail
      refine (heldIntS_c _ A' c' _ _ HC.out (by omega) (by omega) hcl).mono ?_
      rintro e w1 ⟨rfl, rfl⟩
      rw [Hh.out]
      have hng : decide (K + 1 + (L : Int) < 0) = false := by simp; omega
      go_wp2
      go_roundw
      case rel => exact ⟨j + 1, by omega, by go_num, by have := HM.out; have := HK.out; have := HL.out; congr 1; omega, trivial⟩
      case measure => simp [intOf]; omega
    · have He := Aside0.mk (show ts.take j = ts from List.take_of_length_le (by omega))
      go_wp2
      go_ret
      exact ⟨ret_int (by rw [He.out]), rfl⟩
set_option maxHeartbeats 800000 in
set_option maxRecDepth 100000 in
theorem eqOrder_c (r r1 : Int) (m m1 : List Int) (A A1 : Option Addr) (k k1 : Nat) (w : World) (hr : I.C w A m.length m) (hr1 : I.C w A1 m1.length m1) :
    Calls Tryd.prog 55 #[.agg #[.int .i64 r, .slice A m.length k], .agg #[.int .i64 r1, .slice A1 m1.length k1]] w fun e w' => e = .returned (.bool (r == r1 && m == m1)) ∧ Below w.heap.size w w' := by
  have HR := Aside0.mk hr
  have HR1 := Aside0.mk hr1
  have HX := Aside0.mk (blk_new w (.cells #[.int .i64 r, .slice A m.length k] 34))
  have HY := Aside0.mk (blk_new (w.alloc (.cells #[.int .i64 r, .slice A m.length k] 34)) (.cells #[.int .i64 r1, .slice A1 m1.length k1] 34))
  have hB := Aside0.mk (below_alloc (below_alloc (Below.refl w.heap.size w) (.cells #[.int .i64 r, .slice A m.length k] 34)) (.cells #[.int .i64 r1, .slice A1 m1.length k1] 34))
  clear hr hr1
  by_cases h1 : r = r1
  · have hn1 : (r != r1) = false := by simp [h1]
    cases h2 : (m == m1)
    · have H2 := Aside0.mk h2
      clear h2 h1
      go_enter Tryd.func55, Tryd.ntmps55
      go_wp2_with fail
      refine (eqIntS_c m m1 A A1 k k1 _ (Kd.C_below HR.out hB.out) (Kd.C_below HR1.out hB.out)).mono ?_
      rintro e w1 ⟨rfl, q, rfl⟩
      rw [H2.out]
      go_wp2
      go_ret
      exact ⟨ret_bool (by simp), below_drewN hB.out _⟩
    · have H2 := Aside0.mk h2
      have H1 := Aside0.mk h1
      clear h2 h1
      go_enter Tryd.func55, Tryd.ntmps55
      go_wp2_with fail
      refine (eqIntS_c m m1 A A1 k k1 _ (Kd.C_below HR.out hB.out) (Kd.C_below HR1.out hB.out)).mono ?_
      rintro e w1 ⟨rfl, q, rfl⟩
      rw [H2.out]
      go_wp2
      go_ret
      exact ⟨ret_bool (by simp [H1.out]), below_drewN hB.out _⟩
  · have hn1 : (r != r1) = true := by simp [h1]
    have H1 := Aside0.mk h1
    clear h1
    go_enter Tryd.func55, Tryd.ntmps55
    go_wp2
    go_ret
    exact ⟨ret_bool (by simp [H1.out]), hB.out⟩
theorem eqOrder_yes (t : Ord) (A A1 : Option Addr) (k k1 : Nat) (w : World) (hr : I.C w A t.2.length t.2) (hr1 : I.C w A1 t.2.length t.2) :
    Calls Tryd.prog 55 #[.agg #[.int .i64 t.1, .slice A t.2.length k], .agg #[.int .i64 t.1, .slice A1 t.2.length k1]] w fun e w' => e = .returned (.bool true) ∧ Below w.heap.size w w' := by
  refine (eqOrder_c t.1 t.1 t.2 t.2 A A1 k k1 w hr hr1).mono ?_
  rintro e w' ⟨rfl, h⟩
  exact ⟨ret_bool (by simp), h⟩
set_option maxHeartbeats 800000 in
set_option maxRecDepth 100000 in
theorem eqOrderS_c (ts : List Ord) (A A1 : Option Addr) (c c1 : Nat) (w : World) (hr : Kd.C kO w A ts.length ts) (hr1 : Kd.C kO w A1 ts.length ts) (hl : ts.length ≤ 1000000000) :
    Calls Tryd.prog 16 #[.slice A ts.length c, .slice A1 ts.length c1] w fun e w' => e = .returned (.bool true) ∧ Below w.heap.size w w' := by
  have HR := Aside0.mk hr
  have HR1 := Aside0.mk hr1
  clear hr hr1
  go_enter Tryd.func16, Tryd.ntmps16
  go_wp2
  go_loopw [5] (fun i wr => ∃ j : Nat, j ≤ ts.length ∧ i = .int .i64 j ∧ Aside0 (Below w.heap.size w wr)) (fun i _ => ts.length - (intOf i).toNat)
  case atStart => exact ⟨0, Nat.zero_le _, rfl, ⟨Below.refl _ _⟩⟩
  case round =>
    obtain ⟨j, hj, rfl, HB⟩ := hrel
    by_cases hlt : j < ts.length
    · obtain ⟨ad, A', c', rfl, hx0, hx1, _, hC⟩ := at_O (Kd.C_below HR.out HB.out) j hlt
      obtain ⟨ad1, A1', c1', rfl, hy0, hy1, _, hC1⟩ := at_O (Kd.C_below HR1.out HB.out) j hlt
      have HC := Aside0.mk hC
      have HC1 := Aside0.mk hC1
      clear hC hC1
      go_wp2
      go_region_held3 (fun w' => w'.cell? (ad.add (j * 2)) = some (.int .i64 (rdO ts j).1) ∧ w'.cell? ⟨(ad.add (j * 2)).block, (ad.add (j * 2)).off + 1, none⟩ = some (.slice A' (rdO ts j).2.length c') ∧ w'.cell? (ad1.add (j * 2)) = some (.int .i64 (rdO ts j).1) ∧ w'.cell? ⟨(ad1.add (j * 2)).block, (ad1.add (j * 2)).off + 1, none⟩ = some (.slice A1' (rdO ts j).2.length c1')) (first | exact ⟨hx0, hx1, hy0, hy1⟩ | exact ⟨cell_lt (w := wr.drew) ‹_› hx0, cell_lt (w := wr.drew) ‹_› hx1, cell_lt (w := wr.drew) ‹_› hy0, cell_lt (w := wr.drew) ‹_› hy1⟩)
        (first | (go_at_call 55; with_reducible refine (eqOrder_yes (rdO ts j) A' A1' c' c1' _ (Kd.C_below HC.out (below_drew (Below.refl _ _))) (Kd.C_below HC1.out (below_drew (Below.refl _ _)))).mono ?_; rintro e w1 ⟨rfl, hb⟩))
      have HB1 := Aside0.mk (below_step (below_drew1 HB.out) hb)
      go_wp2
      go_roundw
      case rel => exact ⟨j + 1, by omega, by go_num, HB1⟩
      case measure => simp [intOf]; omega
    · go_wp2
      go_ret
      exact ⟨rfl, HB.out⟩
theorem mkON_len : ∀ ts : List Ord, ts.length ≤ mkON ts
  | [] => by simp [mkON]
  | t :: ts => by rw [List.length_cons, mkON]; have := mkON_len ts; omega
set_option maxHeartbeats 800000 in
set_option maxRecDepth 100000 in
theorem markOrderS_c (ts : List Ord) (v : Value) (n : Int) (w0 w : World) (hr : STO w w0.heap.size v ts) (hB : Below w0.heap.size w0 w) (h0 : 0 ≤ n) (h1 : n + mkON ts ≤ 1000000000) :
    Calls Tryd.prog 17 #[v, .int .i64 n] w fun e w' => e = .returned (.int .i64 (n + mkON ts)) ∧ STO w' w0.heap.size v (mkOL n ts) ∧ Below w0.heap.size w0 w' := by
  obtain ⟨A, c, rfl, _⟩ := Kd.S_reads hr
  have hl := mkON_len ts
  have HO := Aside0.mk hr
  have HB := Aside0.mk hB
  clear hr hB
  go_enter Tryd.func17, Tryd.ntmps17
  go_wp2
  go_loopw [1, 5] (fun q i wr => ∃ j : Nat, j ≤ ts.length ∧ i = .int .i64 j ∧ q = .int .i64 (n + mkON (ts.take j)) ∧ Aside0 (STO wr w0.heap.size (.slice A ts.length c) (mkOL n (ts.take j) ++ ts.drop j)) ∧ Aside0 (Below w0.heap.size w0 wr)) (fun _ i _ => ts.length - (intOf i).toNat)
  case atStart => exact ⟨0, Nat.zero_le _, rfl, by simp [mkON], ⟨by simpa [mkOL] using HO.out⟩, HB⟩
  case round =>
    clear HO HB
    obtain ⟨j, hj, rfl, rfl, HO, HB⟩ := hrel
    by_cases hlt : j < ts.length
    · have hll : (mkOL n (ts.take j) ++ ts.drop j).length = ts.length := by rw [List.length_append, mkOL_len, List.length_take, List.length_drop]; omega
      obtain ⟨g, cap, e, hg1, hg2, cells, hgc⟩ := Kd.S_form HO.out (by rw [hll]; omega)
      rw [hll] at e
      injection e with eA en ec
      subst eA
      clear en ec
      obtain ⟨u, hx0, hx1, ho, _, hback⟩ := STO_mark HO.out j hlt
      rw [mkOL_rd hlt] at hx0 ho
      have Hback := Aside0.mk hback
      have hf := blk_frozen hgc
      have hf0 := hf (j * 2)
      have HS := Aside0.mk (mkOL_set (n := n) hlt)
      have HM := Aside0.mk (mkON_step hlt)
      have hm := mkON_take (ts := ts) (j + 1)
      have hsum : n + mkON (ts.take j) + (rdO ts j).2.length + 1 ≤ n + mkON ts := by have := HM.out; omega
      obtain ⟨xs, hxs, HX⟩ : ∃ xs, (rdO ts j).2 = xs ∧ Aside0 ((rdO ts j).2 = xs) := ⟨_, rfl, ⟨rfl⟩⟩
      obtain ⟨K, hK, HK⟩ : ∃ K : Int, n + mkON (ts.take j) = K ∧ Aside0 (n + mkON (ts.take j) = K) := ⟨_, rfl, ⟨rfl⟩⟩
      rw [hxs] at ho hsum
      rw [hK] at hsum ⊢
      have hK0 : 0 ≤ K := by omega
      have HO2 := Aside0.mk (OI_farv ho hgc (by decide) (j := j * 2) (.int .i64 K))
      have HB2 := Aside0.mk (below_set HB.out (g := g) (j := j * 2) (v := .int .i64 K) hg1)
      clear hxs hK hback ho hgc hf hm hll
      go_wp2_with fail
      refine (markIntS_c xs u (K + 1) _ w0 _ HO2.out HB2.out (by omega) (by omega) (by omega)).mono ?_
      rintro e w1 ⟨rfl, ho, hb, hk⟩
      have HO3 : Aside0 (STO w1 w0.heap.size (.slice (some ⟨g, 0, none⟩) ts.length c) (mkOL n (ts.take (j + 1)) ++ ts.drop (j + 1))) := ⟨by
        have h := Hback.out K w1 _ hk ho
        have h2 := HS.out
        rw [HK.out, HX.out] at h2
        rwa [h2] at h⟩
      have HB3 := Aside0.mk hb
      clear ho hb hk
      go_wp2
      go_roundw
      case rel => exact ⟨j + 1, by omega, by go_num, by have := HM.out; have := HK.out; have := HX.out; rw [this] at HM; congr 1; have := HM.out; omega, HO3, HB3⟩
      case measure => simp [intOf]; omega
    · have He := Aside0.mk (show ts.take j = ts from List.take_of_length_le (by omega))
      have hd : Aside0 (ts.drop j = []) := ⟨List.drop_of_length_le (by omega)⟩
      go_wp2
      go_ret
      exact ⟨ret_int (by rw [He.out]), by have := HO.out; rwa [He.out, hd.out, List.append_nil] at this, HB.out⟩
end Go.Proofs.YtgffgmfjoepjoaaDoor.M
