/- OrdersOf and CountChoices: the reference's and the program's. -/
import Derived.Test.YtgffgmfjoepjoaaDoorP1
set_option linter.unusedVariables false
set_option linter.unusedSimpArgs false
namespace Go.Proofs.YtgffgmfjoepjoaaDoor.M
open Go.RowKit Go.Proofs.YtgffgmfjoepjoaaDoorW.PrintWords
theorem cfSize_b {n : Int} {b : Bool} (h : inR n 0 4 = b) (w : World) : Calls Tryd.prog 83 #[.int .i64 n] w fun e w' => e = .returned (.bool b) ∧ w' = w := by
  go_enter Tryd.func83, Tryd.ntmps83
  go_wp2_with fail
  refine (l1In_b h w).mono ?_
  rintro e w1 ⟨rfl, rfl⟩
  go_wp2
  go_ret
  exact ⟨rfl, rfl⟩
theorem cfKinds_b {n : Int} {b : Bool} (h : inR n 0 3 = b) (w : World) : Calls Tryd.prog 84 #[.int .i64 n] w fun e w' => e = .returned (.bool b) ∧ w' = w := by
  go_enter Tryd.func84, Tryd.ntmps84
  go_wp2_with fail
  refine (l1In_b h w).mono ?_
  rintro e w1 ⟨rfl, rfl⟩
  go_wp2
  go_ret
  exact ⟨rfl, rfl⟩
def okC (n kind : Int) : Bool := inR n 0 4 && inR kind 0 3
theorem isChoiceKind_b {n kind : Int} {b : Bool} (h : okC n kind = b) (w : World) : Calls Tryd.prog 88 #[.int .i64 n, .int .i64 kind] w fun e w' => e = .returned (.bool b) ∧ w' = w := by
  cases hn : inR n 0 4
  · have hb : Aside0 (b = false) := ⟨by rw [← h, okC, hn]; rfl⟩
    have HN := Aside0.mk hn
    clear hn h
    go_enter Tryd.func88, Tryd.ntmps88
    go_wp2_with fail
    refine (within_b HN.out w).mono ?_
    rintro e w1 ⟨rfl, rfl⟩
    go_wp2
    go_ret
    exact ⟨by rw [hb.out]; rfl, rfl⟩
  · have hb : Aside0 (inR kind 0 3 = b) := ⟨by rw [← h, okC, hn]; rfl⟩
    have HN := Aside0.mk hn
    clear hn h
    go_enter Tryd.func88, Tryd.ntmps88
    go_wp2_with fail
    refine (within_b HN.out w).mono ?_
    rintro e w1 ⟨rfl, rfl⟩
    go_wp2_with fail
    refine (within_b hb.out w1).mono ?_
    rintro e w2 ⟨rfl, rfl⟩
    go_wp2
    go_ret
    exact ⟨rfl, rfl⟩
def ordsF (n kind : Int) : List Ord := if okC n kind then ords n.toNat kind n.toNat [] else []
theorem okC_nat {n kind : Int} (h : okC n kind = true) : ∃ k : Nat, n = k ∧ k ≤ 4 ∧ ordsF n kind = ords k kind k [] := by
  have h1 := h
  rw [okC, Bool.and_eq_true] at h1
  have h2 := h1.1
  simp only [inR, Bool.and_eq_true, decide_eq_true_eq] at h2
  refine ⟨n.toNat, by omega, by omega, ?_⟩
  rw [ordsF, h]
  rfl
theorem ordsF_no {n kind : Int} (h : okC n kind = false) : ordsF n kind = [] := by rw [ordsF, h]; rfl
theorem specOrders_c (n kind : Int) (w : World) :
    Calls Tryd.prog 14 #[.int .i64 n, .int .i64 kind] w fun e w' => ∃ v, e = .returned (.tuple #[v, .bool (okC n kind)]) ∧ RO w' w.heap.size v (ordsF n kind) ∧ Below w.heap.size w w' := by
  cases hn : inR n 0 4
  · have hb : Aside0 (okC n kind = false) := ⟨by rw [okC, hn]; rfl⟩
    have HN := Aside0.mk hn
    clear hn
    go_enter Tryd.func14, Tryd.ntmps14
    go_wp2_with fail
    refine (cfSize_b HN.out w).mono ?_
    rintro e w1 ⟨rfl, rfl⟩
    go_wp2
    refine bodyPost_ret (results_tmp2 rfl _ _ _) rfl ?_
    exact ⟨.slice none 0 0, by rw [hb.out]; rfl, by rw [ordsF_no hb.out]; exact RO_nil _ _, Below.refl _ _⟩
  · cases hk : inR kind 0 3
    · have hb : Aside0 (okC n kind = false) := ⟨by rw [okC, hn, hk]; rfl⟩
      have HN := Aside0.mk hn
      have HK := Aside0.mk hk
      clear hn hk
      go_enter Tryd.func14, Tryd.ntmps14
      go_wp2_with fail
      refine (cfSize_b HN.out w).mono ?_
      rintro e w1 ⟨rfl, rfl⟩
      go_wp2_with fail
      refine (cfKinds_b HK.out w1).mono ?_
      rintro e w2 ⟨rfl, rfl⟩
      go_wp2
      refine bodyPost_ret (results_tmp2 rfl _ _ _) rfl ?_
      exact ⟨.slice none 0 0, by rw [hb.out]; rfl, by rw [ordsF_no hb.out]; exact RO_nil _ _, Below.refl _ _⟩
    · have hb : okC n kind = true := by rw [okC, hn, hk]; rfl
      have HN := Aside0.mk hn
      have HK := Aside0.mk hk
      have HB := Aside0.mk hb
      obtain ⟨k, rfl, hk4, ho⟩ := okC_nat hb
      have HO := Aside0.mk ho
      clear hn hk hb ho
      go_enter Tryd.func14, Tryd.ntmps14
      go_wp2_with fail
      refine (cfSize_b HN.out w).mono ?_
      rintro e w1 ⟨rfl, rfl⟩
      go_wp2_with fail
      refine (cfKinds_b HK.out w1).mono ?_
      rintro e w2 ⟨rfl, rfl⟩
      go_wp2_with fail
      refine (cfOrders_c k hk4 kind k [] none 0 0 w2 rfl (by omega) (Kd_C_nil _ _)).mono ?_
      rintro e w3 ⟨v, rfl, ho, hb⟩
      go_wp2
      refine bodyPost_ret (results_tmp2 rfl _ _ _) rfl ?_
      exact ⟨v, by rw [HB.out]; rfl, by rw [HO.out]; exact ho, hb⟩
theorem implOrders_c (n kind : Int) (w : World) (hT : DB w) :
    Calls Tryd.prog 15 #[.int .i64 n, .int .i64 kind] w fun e w' => ∃ v, e = .returned (.tuple #[v, .bool (okC n kind)]) ∧ STO w' w.heap.size v (ordsF n kind) ∧ Below w.heap.size w w' := by
  cases hn : okC n kind
  · have HN := Aside0.mk hn
    clear hn
    go_enter Tryd.func15, Tryd.ntmps15
    go_wp2_with fail
    refine (isChoiceKind_b HN.out w).mono ?_
    rintro e w1 ⟨rfl, rfl⟩
    go_wp2
    refine bodyPost_ret (results_tmp2 rfl _ _ _) rfl ?_
    exact ⟨_, rfl, by rw [ordsF_no HN.out]; exact Kd.S_nil _ _ _ _ _, Below.refl _ _⟩
  · have HB := Aside0.mk hn
    obtain ⟨k, rfl, hk4, ho⟩ := okC_nat hn
    have HO := Aside0.mk ho
    have HT := Aside0.mk hT
    clear hn ho hT
    go_enter Tryd.func15, Tryd.ntmps15
    go_wp2_with fail
    refine (isChoiceKind_b HB.out w).mono ?_
    rintro e w1 ⟨rfl, rfl⟩
    go_wp2_with fail
    refine (ordersOf_c k hk4 kind w1 HT.out).mono ?_
    rintro e w3 ⟨v, rfl, ho, hb⟩
    go_wp2
    refine bodyPost_ret (results_tmp2 rfl _ _ _) rfl ?_
    exact ⟨_, rfl, by rw [HO.out]; exact ho, hb⟩
end Go.Proofs.YtgffgmfjoepjoaaDoor.M
