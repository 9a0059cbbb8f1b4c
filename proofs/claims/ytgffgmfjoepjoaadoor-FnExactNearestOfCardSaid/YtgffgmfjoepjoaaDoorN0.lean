/- How far two orders are apart. -/
import Derived.Test.YtgffgmfjoepjoaaDoorP2
set_option linter.unusedVariables false
set_option linter.unusedSimpArgs false
namespace Go.Proofs.YtgffgmfjoepjoaaDoor.M
open Go.RowKit Go.Proofs.YtgffgmfjoepjoaaDoorW.PrintWords
def many (x : Int) : Int := ((bitsOf x).length : Int)
theorem sixteen {x : Int} (h0 : 0 ≤ x) (h1 : x < 16) : x = 0 ∨ x = 1 ∨ x = 2 ∨ x = 3 ∨ x = 4 ∨ x = 5 ∨ x = 6 ∨ x = 7 ∨ x = 8 ∨ x = 9 ∨ x = 10 ∨ x = 11 ∨ x = 12 ∨ x = 13 ∨ x = 14 ∨ x = 15 := by omega
set_option maxHeartbeats 1600000 in
set_option maxRecDepth 100000 in
theorem ones64_c (x : Int) (h0 : 0 ≤ x) (h1 : x < 16) (w : World) :
    Calls Tryd.prog 205 #[.int .u64 x] w fun e w' => e = .returned (.int .i64 (many x)) ∧ w' = w := by
  go_enter Tryd.func205, Tryd.ntmps205
  go_wp2
  go_ret
  refine ⟨ret_int ?_, rfl⟩
  rcases sixteen h0 h1 with rfl | rfl | rfl | rfl | rfl | rfl | rfl | rfl | rfl | rfl | rfl | rfl | rfl | rfl | rfl | rfl
  all_goals kernel_rfl
theorem ones_c (x : Int) (h0 : 0 ≤ x) (h1 : x < 16) (w : World) :
    Calls Tryd.prog 192 #[.int .u64 x] w fun e w' => e = .returned (.int .i64 (many x)) ∧ w' = w := by
  go_enter Tryd.func192, Tryd.ntmps192
  go_wp2_with fail
  refine (ones64_c x h0 h1 _).mono ?_
  rintro e w1 ⟨rfl, rfl⟩
  go_wp2
  go_ret
  exact ⟨rfl, rfl⟩
theorem count_c (x : Int) (h0 : 0 ≤ x) (h1 : x < 16) (w : World) :
    Calls Tryd.prog 175 #[.int .i64 x] w fun e w' => e = .returned (.int .i64 (many x)) ∧ w' = w := by
  have hw : IntKind.u64.wrap x = x := by rw [IntKind.wrap_u64]; omega
  go_enter Tryd.func175, Tryd.ntmps175
  go_wp2_with fail
  refine (ones_c x h0 h1 _).mono ?_
  rintro e w1 ⟨rfl, rfl⟩
  go_wp2
  go_ret
  exact ⟨rfl, rfl⟩
theorem seMany_c (x : Int) (h0 : 0 ≤ x) (h1 : x < 16) (w : World) :
    Calls Tryd.prog 174 #[.int .i64 x] w fun e w' => e = .returned (.int .i64 (many x)) ∧ Below w.heap.size w w' := by
  go_enter Tryd.func174, Tryd.ntmps174
  go_wp2_with fail
  refine (orList_c x 4 (by omega) h0 (by omega) _).mono ?_
  rintro e w1 ⟨v, rfl, ho, hb⟩
  obtain ⟨A, c, rfl, _⟩ := OI_shape ho
  go_wp2
  go_ret
  exact ⟨rfl, hb⟩
theorem many_range {x : Int} (h0 : 0 ≤ x) (h1 : x < 16) : 0 ≤ many x ∧ many x ≤ 4 := by
  rcases sixteen h0 h1 with rfl | rfl | rfl | rfl | rfl | rfl | rfl | rfl | rfl | rfl | rfl | rfl | rfl | rfl | rfl | rfl
  all_goals exact of_decide_eq_true (by kernel_rfl)
theorem xor_range : ∀ a b : Fin 16, 0 ≤ bits .xor .i64 (a.val : Int) (b.val : Int) ∧ bits .xor .i64 (a.val : Int) (b.val : Int) < 16 := of_decide_eq_true (by kernel_rfl)
theorem xor16 {x y : Int} (h0 : 0 ≤ x) (h1 : x < 16) (h2 : 0 ≤ y) (h3 : y < 16) : 0 ≤ bits .xor .i64 x y ∧ bits .xor .i64 x y < 16 := by
  have := xor_range ⟨x.toNat, by omega⟩ ⟨y.toNat, by omega⟩
  simpa [Int.toNat_of_nonneg h0, Int.toNat_of_nonneg h2] using this
def apTo (l l' : List Int) : Nat → Int
  | 0 => 0
  | k + 1 => apTo l l' k + many (bits .xor .i64 (rd l k) (rd l' k))
def apF (l l' : List Int) : Int := apTo l l' l.length
structure V4 (l : List Int) : Prop where
  l4 : l.length ≤ 4
  m0 : ∀ i : Nat, i < l.length → 0 ≤ rd l i
  mn : ∀ i : Nat, i < l.length → rd l i < 16
theorem VO.v4 {l : List Int} (h : VO l) (h4 : l.length ≤ 4) : V4 l := ⟨h4, fun i hi => (h.rd hi).1, fun i hi => by
  have h1 := (h.rd hi).2.1
  have h2 : (2 : Int) ^ l.length ≤ 2 ^ 4 := by exact_mod_cast Nat.pow_le_pow_right (by decide) h4
  omega⟩
theorem apTo_range {l l' : List Int} (h : V4 l) (h' : V4 l') (he : l'.length = l.length) : ∀ k, k ≤ l.length → 0 ≤ apTo l l' k ∧ apTo l l' k ≤ 4 * k
  | 0, _ => by simp [apTo]
  | k + 1, hk => by
    obtain ⟨a, b⟩ := apTo_range h h' he k (by omega)
    have hx := xor16 (h.m0 k (by omega)) (h.mn k (by omega)) (h'.m0 k (by omega)) (h'.mn k (by omega))
    have hm := many_range hx.1 hx.2
    rw [apTo]
    omega
set_option maxHeartbeats 1600000 in
set_option maxRecDepth 100000 in
theorem apart_c (l l' : List Int) (h : V4 l) (h' : V4 l') (he : l'.length = l.length) (r r1 : Int) (A A1 : Option Addr) (k k1 : Nat) (w : World) (hr : I.C w A l.length l) (hr1 : I.C w A1 l.length l') :
    Calls Tryd.prog 139 #[.agg #[.int .i64 r, .slice A l.length k], .agg #[.int .i64 r1, .slice A1 l.length k1]] w fun e w' => e = .returned (.int .i64 (apF l l')) ∧ Below w.heap.size w w' := by
  have h4 := h.l4
  have HV := Aside0.mk h
  have HV1 := Aside0.mk h'
  have HE := Aside0.mk he
  have HR := Aside0.mk hr
  have HR1 := Aside0.mk hr1
  have hB := Aside0.mk (below_alloc (below_alloc (Below.refl w.heap.size w) (.cells #[.int .i64 r, .slice A l.length k] 34)) (.cells #[.int .i64 r1, .slice A1 l.length k1] 34))
  have HY := Aside0.mk (blk_this (o := .cells #[.int .i64 r1, .slice A1 l.length k1] 34) (sza w (.cells #[.int .i64 r, .slice A l.length k] 34)))
  clear h h' he hr hr1
  go_enter Tryd.func139, Tryd.ntmps139
  go_wp2
  go_loopw [5, 11] (fun a i wr => ∃ q : Nat, q ≤ l.length ∧ i = .int .i64 q ∧ a = .int .i64 (apTo l l' q) ∧ Aside0 (Below w.heap.size w wr) ∧ Aside0 (wr.heap[w.heap.size + 1]? = some (.cells #[.int .i64 r1, .slice A1 l.length k1] 34 (0, 0)))) (fun _ i _ => l.length - (intOf i).toNat)
  case atStart => exact ⟨0, Nat.zero_le _, rfl, rfl, hB, HY⟩
  case round =>
    clear hB HY
    obtain ⟨q, hq, rfl, rfl, HB, HY⟩ := hrel
    by_cases hlt : q < l.length
    · obtain ⟨ad, rfl, hc⟩ := Kd.at_int (Kd.C_below HR.out HB.out) q (by omega) (by omega)
      obtain ⟨ad1, rfl, hc1⟩ := Kd.at_int (Kd.C_below HR1.out HB.out) q (by omega) (by omega)
      rw [Int.toNat_natCast] at hc hc1
      obtain ⟨hy0, hy1⟩ := box2 HY.out
      have hx := xor16 (HV.out.m0 q hlt) (HV.out.mn q hlt) (HV1.out.m0 q (by rw [HE.out]; exact hlt)) (HV1.out.mn q (by rw [HE.out]; exact hlt))
      have hm := many_range hx.1 hx.2
      have ha := apTo_range HV.out HV1.out HE.out q hq
      go_wp2_with fail
      refine (count_c _ hx.1 hx.2 wr).mono ?_
      rintro e w2 ⟨rfl, rfl⟩
      go_wp2
      go_roundw
      case rel => exact ⟨q + 1, by omega, by go_num, rfl, HB, HY⟩
      case measure => simp [intOf]; omega
    · have He : Aside0 (apTo l l' q = apF l l') := ⟨by rw [apF, show l.length = q by omega]⟩
      go_wp2
      go_ret
      exact ⟨ret_int He.out, HB.out⟩
set_option maxHeartbeats 1600000 in
set_option maxRecDepth 100000 in
theorem cfApart_c (l l' : List Int) (h : V4 l) (h' : V4 l') (he : l'.length = l.length) (r r1 : Int) (A A1 : Option Addr) (k k1 : Nat) (w : World) (hr : I.C w A l.length l) (hr1 : I.C w A1 l.length l') :
    Calls Tryd.prog 137 #[.agg #[.int .i64 r, .slice A l.length k], .agg #[.int .i64 r1, .slice A1 l.length k1]] w fun e w' => e = .returned (.int .i64 (apF l l')) ∧ Below w.heap.size w w' := by
  have h4 := h.l4
  have HV := Aside0.mk h
  have HV1 := Aside0.mk h'
  have HE := Aside0.mk he
  have HR := Aside0.mk hr
  have HR1 := Aside0.mk hr1
  have hB := Aside0.mk (below_alloc (below_alloc (Below.refl w.heap.size w) (.cells #[.int .i64 r, .slice A l.length k] 34)) (.cells #[.int .i64 r1, .slice A1 l.length k1] 34))
  have HY := Aside0.mk (blk_this (o := .cells #[.int .i64 r1, .slice A1 l.length k1] 34) (sza w (.cells #[.int .i64 r, .slice A l.length k] 34)))
  clear h h' he hr hr1
  go_enter Tryd.func137, Tryd.ntmps137
  go_wp2
  go_loopw [5, 11] (fun a i wr => ∃ q : Nat, q ≤ l.length ∧ i = .int .i64 q ∧ a = .int .i64 (apTo l l' q) ∧ Aside0 (Below w.heap.size w wr) ∧ Aside0 (wr.heap[w.heap.size + 1]? = some (.cells #[.int .i64 r1, .slice A1 l.length k1] 34 (0, 0)))) (fun _ i _ => l.length - (intOf i).toNat)
  case atStart => exact ⟨0, Nat.zero_le _, rfl, rfl, hB, HY⟩
  case round =>
    clear hB HY
    obtain ⟨q, hq, rfl, rfl, HB, HY⟩ := hrel
    by_cases hlt : q < l.length
    · obtain ⟨ad, rfl, hc⟩ := Kd.at_int (Kd.C_below HR.out HB.out) q (by omega) (by omega)
      obtain ⟨ad1, rfl, hc1⟩ := Kd.at_int (Kd.C_below HR1.out HB.out) q (by omega) (by omega)
      rw [Int.toNat_natCast] at hc hc1
      obtain ⟨hy0, hy1⟩ := box2 HY.out
      have hx := xor16 (HV.out.m0 q hlt) (HV.out.mn q hlt) (HV1.out.m0 q (by rw [HE.out]; exact hlt)) (HV1.out.mn q (by rw [HE.out]; exact hlt))
      have hm := many_range hx.1 hx.2
      have ha := apTo_range HV.out HV1.out HE.out q hq
      go_wp2_with fail
      refine (seMany_c _ hx.1 hx.2 wr).mono ?_
      rintro e w2 ⟨rfl, hb⟩
      have HB2 := Aside0.mk (below_step HB.out hb)
      have HY2 := Aside0.mk (blk_below HY.out hb)
      clear hb
      go_wp2
      go_roundw
      case rel => exact ⟨q + 1, by omega, by go_num, rfl, HB2, HY2⟩
      case measure => simp [intOf]; omega
    · have He : Aside0 (apTo l l' q = apF l l') := ⟨by rw [apF, show l.length = q by omega]⟩
      go_wp2
      go_ret
      exact ⟨ret_int He.out, HB.out⟩
end Go.Proofs.YtgffgmfjoepjoaaDoor.M
