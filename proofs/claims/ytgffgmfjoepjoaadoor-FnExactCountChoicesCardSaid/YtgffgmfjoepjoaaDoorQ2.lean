/- CountChoices: the reference's and the program's; the law. -/
import Derived.Test.YtgffgmfjoepjoaaDoorQ1
set_option linter.unusedVariables false
set_option linter.unusedSimpArgs false
namespace Go.Proofs.YtgffgmfjoepjoaaDoor.M
open Go.RowKit Go.Proofs.YtgffgmfjoepjoaaDoorW.PrintWords
def kL : Kd (List Int) := Kd.slice 3 I
theorem kL_open {w : World} {x : List Int} {cs : List Value} (h : kL.K w x cs) : ∃ A c, cs = [.slice A x.length c] ∧ x.length ≤ c ∧ I.C w A x.length x := by
  obtain ⟨A, c, rfl, h2, h3⟩ := h
  exact ⟨A, c, rfl, h2, h3⟩
theorem kL_mkM {w : World} {base : Nat} {ok : Nat → Prop} (x : List Int) {v : Value} (h : I.R 3 w base ok v x) : kL.M w base ok x [v] := ⟨v, rfl, h⟩
theorem infoL : (Tryd.prog.info? 32).map (fun i => (i.zero, i.size, i.bytes)) = some (some (.slice none 0 0), 1, 24) := by kernel_rfl
abbrev RL (w : World) (base : Nat) (v : Value) (ts : List (List Int)) : Prop := Kd.R kL 32 w base T v ts
def rdL (ts : List (List Int)) (i : Nat) : List Int := ts.getD i []
theorem at_L {w : World} {A : Option Addr} {n : Nat} {ts : List (List Int)} (h : Kd.C kL w A n ts) (i : Nat) (h1 : i < n) :
    ∃ ad A' c', A = some ad ∧ w.cell? (ad.add i) = some (.slice A' (rdL ts i).length c') ∧ I.C w A' (rdL ts i).length (rdL ts i) := by
  obtain ⟨ad, c, e, _, hK, hc⟩ := Kd.C_get h [] i (by omega) (by omega)
  obtain ⟨A', c', rfl, hl, hI⟩ := kL_open hK
  rw [Int.toNat_natCast] at hl hI hc
  exact ⟨ad, A', c', e, by have := hc 0 _ rfl; rw [show i * kL.sz = i from Nat.mul_one i] at this; exact this, hI⟩
theorem appRL {ops : Array Oper} {rest : List Oper} {o : Oper} {a : Act} {Q : Exit → Act → World → Prop} {w0 W : World} {base : Nat} (s x : Operand) (hgd : o.guard = none)
    (ho : o.op = .call { callee := .builtin .append, args := #[s, x], argTypes := #[88, 88] }) (v u : Value) (ts : List (List Int)) (xs : List Int) (hs : a.eval s = v) (hx : a.eval x = .slice (some ⟨W.heap.size, 0, none⟩) 1 1)
    (HO : OI W base u xs) (HS : RL W base v ts) (HB : Below base w0 W) (hbase : base ≤ W.heap.size) (hl : ts.length ≤ 1000000)
    (h : ∀ v1 w1, RL w1 base v1 (ts ++ [xs]) → Below base w0 w1 → wpList Tryd.prog ops Q rest (a.put o.dst v1) w1) :
    wpList Tryd.prog ops Q (o :: rest) a (W.alloc (.cells #[u] 32)) := by
  refine Kd.R_append kL (w0 := w0) base hgd s x 88 32 _ 24 ho Tryd.underlying88 infoL rfl (by decide) (by omega) v ts xs [u] T (fun k => some k = u.ownBlock) hs hx
    (kL_mkM xs (Kd.R_tight rfl HO)) (fun k hk => ⟨trivial, fun e => ?_⟩) (fun _ _ => trivial) HS HB hbase (by omega) (fun v1 w1 h1 h2 _ _ => h v1 w1 h1 h2)
  obtain ⟨c1, h1⟩ := Kd.R_typed HS k e.symm
  obtain ⟨c2, h2⟩ := Kd.R_typed HO k hk.symm
  rw [h1] at h2
  injection h2 with h2
  injection h2 with _ h2 _
  exact absurd h2 (by decide)
def tabs (L : List Ord) (k : Nat) : List (List Int) := (L.take k).map fun o => tabOf o.2
theorem tabs_len {L : List Ord} {k : Nat} (h : k ≤ L.length) : (tabs L k).length = k := by rw [tabs, List.length_map, List.length_take]; omega
theorem tabs_succ {L : List Ord} {k : Nat} (h : k < L.length) : tabs L (k + 1) = tabs L k ++ [tabOf (rdO L k).2] := by
  rw [tabs, List.take_succ_eq_append_getElem h, List.map_append]
  simp [tabs, rdO, h]
theorem tabs_at {L : List Ord} {j k : Nat} (hj : j < k) (h : k ≤ L.length) : rdL (tabs L k) j = tabOf (rdO L j).2 := by
  simp [rdL, tabs, rdO, List.getD_eq_getElem?_getD, List.getElem?_take, hj, show j < L.length by omega]
def cntF (n kind : Int) : Int := (ordsF n kind).length
set_option maxHeartbeats 1600000 in
set_option maxRecDepth 100000 in
theorem specCount_c (n kind : Int) (w : World) :
    Calls Tryd.prog 12 #[.int .i64 n, .int .i64 kind] w fun e w' => e = .returned (.tuple #[.int .i64 (cntF n kind), .bool (okC n kind)]) ∧ Below w.heap.size w w' := by
  cases hn : inR n 0 4
  · have hb : Aside0 (okC n kind = false) := ⟨by rw [okC, hn]; rfl⟩
    have HN := Aside0.mk hn
    clear hn
    go_enter Tryd.func12, Tryd.ntmps12
    go_wp2_with fail
    refine (cfSize_b HN.out w).mono ?_
    rintro e w1 ⟨rfl, rfl⟩
    go_wp2
    refine bodyPost_ret (results_tmp2 rfl _ _ _) rfl ?_
    exact ⟨by rw [hb.out, cntF, ordsF_no hb.out]; rfl, Below.refl _ _⟩
  · cases hk : inR kind 0 3
    · have hb : Aside0 (okC n kind = false) := ⟨by rw [okC, hn, hk]; rfl⟩
      have HN := Aside0.mk hn
      have HK := Aside0.mk hk
      clear hn hk
      go_enter Tryd.func12, Tryd.ntmps12
      go_wp2_with fail
      refine (cfSize_b HN.out w).mono ?_
      rintro e w1 ⟨rfl, rfl⟩
      go_wp2_with fail
      refine (cfKinds_b HK.out w1).mono ?_
      rintro e w2 ⟨rfl, rfl⟩
      go_wp2
      refine bodyPost_ret (results_tmp2 rfl _ _ _) rfl ?_
      exact ⟨by rw [hb.out, cntF, ordsF_no hb.out]; rfl, Below.refl _ _⟩
    · have hb : okC n kind = true := by rw [okC, hn, hk]; rfl
      have HN := Aside0.mk hn
      have HK := Aside0.mk hk
      have HB := Aside0.mk hb
      obtain ⟨m, rfl, hm4, ho⟩ := okC_nat hb
      have hlen := ords_len hm4 kind m []
      have h16 : 16 ^ m ≤ 65536 := by
        have : (16 : Nat) ^ m ≤ 16 ^ 4 := Nat.pow_le_pow_right (by decide) hm4
        omega
      obtain ⟨L, hL, HL⟩ : ∃ L, ords m kind m [] = L ∧ Aside0 (ords m kind m [] = L) := ⟨_, rfl, ⟨rfl⟩⟩
      have hLl : L.length ≤ 65536 := by rw [← hL]; omega
      have HO := Aside0.mk (show cntF (m : Int) kind = (L.length : Int) by rw [cntF, ho, hL])
      have HE : Aside0 (∀ q, q < L.length → VO (rdO L q).2 ∧ (rdO L q).1 = (m : Int) ∧ (rdO L q).2.length = m) := ⟨fun q hq => by
        have hm : rdO L q ∈ ords m kind m [] := by rw [hL]; simp [rdO, hq]
        exact ⟨(ords_ord m [] _ hm).1.vo, (ords_pre m [] _ hm).1, (ords_ord m [] _ hm).2⟩⟩
      have HNE : Aside0 (∀ j k, j < k → k < L.length → tabOf (rdO L j).2 ≠ tabOf (rdO L k).2) := ⟨fun j k hj hk => by have := tab_ne (n := m) (kind := kind) hj (by rw [hL]; exact hk); rwa [hL] at this⟩
      clear hn hk hb ho hlen h16 hL
      go_enter Tryd.func12, Tryd.ntmps12
      go_wp2_with fail
      refine (cfSize_b HN.out w).mono ?_
      rintro e w1 ⟨rfl, rfl⟩
      go_wp2_with fail
      refine (cfKinds_b HK.out w1).mono ?_
      rintro e w2 ⟨rfl, rfl⟩
      go_wp2_with fail
      refine (cfOrders_c m hm4 kind m [] none 0 0 w2 rfl (by omega) (Kd_C_nil _ _)).mono ?_
      rintro e w3 ⟨v, rfl, ho, hb⟩
      rw [HL.out] at ho
      obtain ⟨A, c, rfl, _, hC⟩ := Kd.R_reads ho
      have HC := Aside0.mk hC
      have HB3 := Aside0.mk hb
      clear ho hb hC
      go_wp2
      go_loopw [6, 25] (fun v i wr => ∃ k : Nat, k ≤ L.length ∧ i = .int .i64 k ∧ Aside0 (RL wr w3.heap.size v (tabs L k)) ∧ Aside0 (Below w3.heap.size w3 wr)) (fun _ i _ => L.length - (intOf i).toNat)
      case atStart => exact ⟨0, Nat.zero_le _, rfl, ⟨Kd.R_nil _ _ _ _ _⟩, ⟨Below.refl _ _⟩⟩
      case round =>
        obtain ⟨k, hk, rfl, HR, HW⟩ := hrel
        obtain ⟨A6, c6, rfl, _, hC6⟩ := Kd.R_reads HR.out
        have htl := tabs_len hk
        rw [htl] at hC6 HR ⊢
        clear htl
        by_cases hlt : k < L.length
        · obtain ⟨ad, A', c', rfl, hx0, hx1, _, hC⟩ := at_O (Kd.C_below HC.out HW.out) k hlt
          obtain ⟨hvk, he1, he2⟩ := HE.out k hlt
          have HC6 := Aside0.mk hC6
          have HVK := Aside0.mk hvk
          have HS := Aside0.mk (tabs_succ hlt)
          obtain ⟨l, hl, HLK⟩ : ∃ l, (rdO L k).2 = l ∧ Aside0 ((rdO L k).2 = l) := ⟨_, rfl, ⟨rfl⟩⟩
          rw [hl] at hx1 hC HVK he2 HS
          rw [he1] at hx0
          have he2' : (m : Int) = (l.length : Int) := by rw [he2]
          rw [he2'] at hx0
          have HCK := Aside0.mk (Kd.C_alloc hC (.cells #[.int .i64 (l.length : Int), .slice A' l.length c'] 34))
          have HBK := Aside0.mk (below_alloc (Below.refl wr.heap.size wr) (.cells #[.int .i64 (l.length : Int), .slice A' l.length c'] 34))
          clear hC hC6 hvk he1 he2 hl he2'
          go_wp2_with fail
          refine (cfTable_c l HVK.out A' c' _ HCK.out).mono ?_
          rintro e w4 ⟨v4, rfl, ho4, hb4⟩
          obtain ⟨A4, c4, rfl, _⟩ := OI_shape ho4
          have HO4 := Aside0.mk ho4
          have HB4 := Aside0.mk (below_step HBK.out hb4)
          clear ho4 hb4
          have HR4 := Aside0.mk (Kd.R_below HR.out HB4.out)
          have HC4 := Aside0.mk (Kd.C_below HC6.out HB4.out)
          have HW4 := Aside0.mk (below_step HW.out HB4.out)
          have HO5 := Aside0.mk (Kd.R_lower HO4.out (Nat.le_trans HW.out.size (size_alloc_le _ _)))
          have HQ : Aside0 (∀ j, j < k → rdL (tabs L k) j ≠ tabOf l) := ⟨fun j hj => by rw [tabs_at hj hk, ← HLK.out]; exact HNE.out j k hj hlt⟩
          have hll : (tabs L k).length ≤ 1000000 := by rw [tabs_len hk]; omega
          clear hx0 hx1
          go_wp2
          go_loopw [10, 33] (fun b i wq => ∃ j : Nat, j ≤ k ∧ i = .int .i64 j ∧ b = .bool false ∧ Aside0 (Below w4.heap.size w4 wq)) (fun _ i _ => k - (intOf i).toNat)
          case atStart => exact ⟨0, Nat.zero_le _, rfl, rfl, ⟨Below.refl _ _⟩⟩
          case round =>
            obtain ⟨j, hj, rfl, rfl, HW2⟩ := hrel
            by_cases hlt2 : j < k
            · obtain ⟨ad6, A7, c7, rfl, hy0, hC7⟩ := at_L (Kd.C_below HC4.out HW2.out) j hlt2
              have HC7 := Aside0.mk hC7
              have HNJ := Aside0.mk (HQ.out j hlt2)
              clear hC7
              go_wp2_with fail
              refine (l1Same_no _ (tabOf l) HNJ.out A7 A4 c7 c4 _ HC7.out (OI_C (Kd.R_below HO4.out HW2.out))).mono ?_
              rintro e w5 ⟨rfl, q5, rfl⟩
              go_wp2
              go_roundw
              case rel => exact ⟨j + 1, by omega, by go_num, rfl, ⟨below_drewN HW2.out _⟩⟩
              case measure => simp [intOf]; omega
            · have HB5 := Aside0.mk (below_step HW4.out HW2.out)
              have HO6 := Aside0.mk (Kd.R_below HO5.out HW2.out)
              have HR5 := Aside0.mk (Kd.R_below HR4.out HW2.out)
              go_wp2_with (at_builtin; refine appRL (.tmp 46) (.tmp 48) rfl rfl _ _ (tabs L k) (tabOf l) rfl rfl HO6.out HR5.out HB5.out HB5.out.size hll ?_; intro v6 w6 ho6 hb6; have HR6 := Aside0.mk ho6; have HB6 := Aside0.mk hb6; clear ho6 hb6)
              go_roundw
              case rel => exact ⟨k + 1, by omega, by go_num, by rw [HS.out]; exact HR6, HB6⟩
              case measure => simp [intOf]; omega
        · have he : k = L.length := by omega
          have HK := Aside0.mk he
          clear he
          go_wp2
          refine bodyPost_ret (results_tmp2 rfl _ _ _) rfl ?_
          exact ⟨by rw [HO.out, HB.out, ← HK.out]; rfl, below_step HB3.out HW.out⟩
theorem implCount_c (n kind : Int) (w : World) (hT : DB w) :
    Calls Tryd.prog 13 #[.int .i64 n, .int .i64 kind] w fun e w' => e = .returned (.tuple #[.int .i64 (cntF n kind), .bool (okC n kind)]) ∧ Below w.heap.size w w' := by
  cases hn : okC n kind
  · have HN := Aside0.mk hn
    clear hn
    go_enter Tryd.func13, Tryd.ntmps13
    go_wp2_with fail
    refine (isChoiceKind_b HN.out w).mono ?_
    rintro e w1 ⟨rfl, rfl⟩
    go_wp2
    refine bodyPost_ret (results_tmp2 rfl _ _ _) rfl ?_
    exact ⟨by rw [cntF, ordsF_no HN.out]; rfl, Below.refl _ _⟩
  · have HB := Aside0.mk hn
    obtain ⟨k, rfl, hk4, ho⟩ := okC_nat hn
    have HO := Aside0.mk ho
    have HT := Aside0.mk hT
    clear hn ho hT
    go_enter Tryd.func13, Tryd.ntmps13
    go_wp2_with fail
    refine (isChoiceKind_b HB.out w).mono ?_
    rintro e w1 ⟨rfl, rfl⟩
    go_wp2_with fail
    refine (ordersOf_c k hk4 kind w1 HT.out).mono ?_
    rintro e w3 ⟨v, rfl, ho, hb⟩
    obtain ⟨A, c, rfl⟩ := Kd.S_slice ho
    go_wp2
    refine bodyPost_ret (results_tmp2 rfl _ _ _) rfl ?_
    exact ⟨by rw [cntF, HO.out]; rfl, hb⟩
theorem law_count (n kind : Int) (w : World) (hT : DB w) :
    Calls Tryd.prog 3 #[.int .i64 n, .int .i64 kind] w fun e w' => e = .returned (.bool true) ∧ Below w.heap.size w w' := by
  have HT := Aside0.mk hT
  clear hT
  obtain ⟨b, hbe⟩ : ∃ b, okC n kind = b := ⟨_, rfl⟩
  obtain ⟨z, hz⟩ : ∃ z, cntF n kind = z := ⟨_, rfl⟩
  have HSM := Aside0.mk (specCount_c n kind w)
  have HIM := Aside0.mk (fun w1 h => implCount_c n kind w1 h)
  rw [hbe, hz] at HSM
  simp only [hbe, hz] at HIM
  have hbb : (b != b) = false := by simp
  have hzz : (z != z) = false := by simp
  clear hbe hz
  go_enter Tryd.func3, Tryd.ntmps3
  go_wp2_with fail
  refine HSM.out.mono ?_
  rintro e w1 ⟨rfl, hb1⟩
  have HB1 := Aside0.mk hb1
  clear hb1
  go_wp2_with fail
  refine (HIM.out w1 (HT.out.below HB1.out)).mono ?_
  rintro e w2 ⟨rfl, hb2⟩
  go_wp2
  go_ret
  exact ⟨rfl, below_step HB1.out hb2⟩
end Go.Proofs.YtgffgmfjoepjoaaDoor.M
