/- The law FnExactOrdersOf: its walk. -/
import Derived.Test.YtgffgmfjoepjoaaDoorP2
set_option linter.unusedVariables false
set_option linter.unusedSimpArgs false
namespace Go.Proofs.YtgffgmfjoepjoaaDoor.M
open Go.RowKit Go.Proofs.YtgffgmfjoepjoaaDoorW.PrintWords
theorem ords_each {n : Nat} {kind : Int} : ∀ d xs, ∀ x ∈ ords n kind d xs, x.2.length = xs.length + d
  | 0, xs, x, h => by
    rw [ords] at h
    split at h
    · simp at h; rw [h]; rfl
    · simp at h
  | d + 1, xs, x, h => by
    rw [ords, List.mem_flatMap] at h
    obtain ⟨s, _, h⟩ := h
    split at h
    · simp at h
    · have := ords_each d _ x h
      simp at this
      omega
theorem mkON_le {m : Nat} : ∀ ts : List Ord, (∀ x ∈ ts, x.2.length = m) → mkON ts = ts.length * (m + 1)
  | [], _ => by simp [mkON]
  | t :: ts, h => by
    rw [mkON, mkON_le ts (fun x hx => h x (List.mem_cons_of_mem _ hx)), h t (List.mem_cons_self ..), List.length_cons, Nat.succ_mul]
    omega
theorem ordsF_small (n kind : Int) : mkON (ordsF n kind) ≤ 1000000 ∧ (ordsF n kind).length ≤ 65536 := by
  cases h : okC n kind
  · rw [ordsF_no h]; simp [mkON]
  · obtain ⟨k, rfl, hk, ho⟩ := okC_nat h
    rw [ho, mkON_le _ (ords_each k [])]
    have h1 := ords_len hk kind k []
    have h16 : 16 ^ k ≤ 65536 := by
      have : (16 : Nat) ^ k ≤ 16 ^ 4 := Nat.pow_le_pow_right (by decide) hk
      omega
    have : (ords k kind k []).length * (([] : List Int).length + k + 1) ≤ 65536 * 5 := Nat.mul_le_mul (by omega) (by simp; omega)
    omega
set_option maxHeartbeats 1600000 in
set_option maxRecDepth 100000 in
theorem law_orders (n kind : Int) (w : World) (hT : DB w) :
    Calls Tryd.prog 4 #[.int .i64 n, .int .i64 kind] w fun e w' => e = .returned (.bool true) ∧ Below w.heap.size w w' := by
  have HT := Aside0.mk hT
  clear hT
  obtain ⟨b, hbe⟩ : ∃ b, okC n kind = b := ⟨_, rfl⟩
  obtain ⟨L, hL, HL⟩ : ∃ L, ordsF n kind = L ∧ Aside0 (mkON L ≤ 1000000 ∧ L.length ≤ 65536) := ⟨_, rfl, ⟨ordsF_small n kind⟩⟩
  have HSM : Aside0 (∀ (w : World), Calls Tryd.prog 14 #[.int .i64 n, .int .i64 kind] w fun e w' => ∃ v, e = .returned (.tuple #[v, .bool b]) ∧ RO w' w.heap.size v L ∧ Below w.heap.size w w') := ⟨by
    intro w; have := specOrders_c n kind w; rwa [hbe, hL] at this⟩
  have HIM : Aside0 (∀ (w : World), DB w → Calls Tryd.prog 15 #[.int .i64 n, .int .i64 kind] w fun e w' => ∃ v, e = .returned (.tuple #[v, .bool b]) ∧ STO w' w.heap.size v L ∧ Below w.heap.size w w') := ⟨by
    intro w h; have := implOrders_c n kind w h; rwa [hbe, hL] at this⟩
  have hbb : (b != b) = false := by simp
  have hl1 := HL.out.1
  have hl2 := HL.out.2
  have hqn : decide (1 + (mkON L : Int) < 0) = false := by simp; omega
  clear hbe hL
  go_enter Tryd.func4, Tryd.ntmps4
  go_wp2_with fail
  refine (HSM.out w).mono ?_
  rintro e w1 ⟨v1, rfl, ho1, hb1⟩
  obtain ⟨A1, c1, rfl, _, hc1⟩ := Kd.R_reads ho1
  have HC1 := Aside0.mk hc1
  have HB1 := Aside0.mk hb1
  have HT1 := Aside0.mk (HT.out.below hb1)
  clear ho1 hb1 hc1
  go_wp2_with fail
  refine (HIM.out w1 HT1.out).mono ?_
  rintro e w2 ⟨v2, rfl, ho2, hb2⟩
  obtain ⟨A2, c2, rfl, _⟩ := Kd.S_reads ho2
  have HS2 := Aside0.mk ho2
  have HB2 := Aside0.mk hb2
  clear ho2 hb2
  go_wp2_with fail
  refine (eqOrderS_c L A2 A1 c2 c1 _ (STO_C HS2.out) (Kd.C_below HC1.out HB2.out) (by omega)).mono ?_
  rintro e w3 ⟨rfl, hb3⟩
  have HS3 := Aside0.mk (Kd.S_below HS2.out hb3)
  have HB3 := Aside0.mk (below_step HB2.out hb3)
  clear hb3 HS2 HB2
  go_wp2_with fail
  refine (markOrderS_c L _ 1 w1 _ HS3.out HB3.out (by omega) (by omega)).mono ?_
  rintro e w4 ⟨rfl, ho4, hb4⟩
  have HC4 := Aside0.mk (STO_C ho4)
  have HB4 := Aside0.mk hb4
  clear ho4 hb4 HS3 HB3
  go_wp2_with fail
  refine (heldOrderS_c L A2 c2 1 _ HC4.out (by omega) (by omega) (by omega)).mono ?_
  rintro e w5 ⟨rfl, rfl⟩
  go_wp2_with fail
  refine (HIM.out w5 (HT1.out.below HB4.out)).mono ?_
  rintro e w6 ⟨v6, rfl, ho6, hb6⟩
  obtain ⟨A6, c6, rfl, _⟩ := Kd.S_reads ho6
  have HC6 := Aside0.mk (STO_C ho6)
  have HB6 := Aside0.mk (below_step HB4.out hb6)
  have HH6 := Aside0.mk (Kd.C_below HC4.out hb6)
  clear ho6 hb6
  go_wp2_with fail
  refine (eqOrderS_c L A6 A1 c6 c1 _ HC6.out (Kd.C_below HC1.out HB6.out) (by omega)).mono ?_
  rintro e w7 ⟨rfl, hb7⟩
  have HB7 := Aside0.mk (below_step HB6.out hb7)
  have HH7 := Aside0.mk (Kd.C_below HH6.out hb7)
  clear hb7
  go_wp2_with fail
  refine (heldOrderS_c L A2 c2 1 _ HH7.out (by omega) (by omega) (by omega)).mono ?_
  rintro e w8 ⟨rfl, rfl⟩
  go_wp2
  go_ret
  exact ⟨rfl, below_step HB1.out HB7.out⟩
end Go.Proofs.YtgffgmfjoepjoaaDoor.M
