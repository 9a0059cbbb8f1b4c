/- Lists of tables: marked, the law's function. -/
import Derived.Test.YtgddmgcneefeeaaL5
set_option linter.unusedVariables false
set_option linter.unusedSimpArgs false
namespace Go.Proofs.Ytgddmgcneefeeaa.M
open Go.RowKit Go.Proofs.YtgddmgcneefeeaaW.PrintWords
theorem mkN_len : ∀ ts : List Tab, 2 * ts.length ≤ mkN ts
  | [] => by simp [mkN]
  | t :: ts => by rw [List.length_cons, mkN]; have := mkN_len ts; omega
set_option maxHeartbeats 800000 in
set_option maxRecDepth 100000 in
theorem markTableS_c (ts : List Tab) (v : Value) (n : Int) (w0 w : World) (hr : ST w w0.heap.size v ts) (hB : Below w0.heap.size w0 w) (h0 : 0 ≤ n) (h1 : n + mkN ts ≤ 1000000000) :
    Calls Try.prog 14 #[v, .int .i64 n] w fun e w' => e = .returned (.int .i64 (n + mkN ts)) ∧ ST w' w0.heap.size v (mkL n ts) ∧ Below w0.heap.size w0 w' := by
  obtain ⟨A, c, rfl, _⟩ := Kd.S_reads hr
  have hl := mkN_len ts
  have HO := Aside0.mk hr
  have HB := Aside0.mk hB
  clear hr hB
  go_enter Try.func14, Try.ntmps14
  go_wp2
  go_loopw [1, 5] (fun q i wr => ∃ j : Nat, j ≤ ts.length ∧ i = .int .i64 j ∧ q = .int .i64 (n + mkN (ts.take j)) ∧ Aside0 (ST wr w0.heap.size (.slice A ts.length c) (mkL n (ts.take j) ++ ts.drop j)) ∧ Aside0 (Below w0.heap.size w0 wr)) (fun _ i _ => ts.length - (intOf i).toNat)
  case atStart => exact ⟨0, Nat.zero_le _, rfl, by simp [mkN], ⟨by simpa [mkL] using HO.out⟩, HB⟩
  case round =>
    clear HO HB
    obtain ⟨j, hj, rfl, rfl, HO, HB⟩ := hrel
    by_cases hlt : j < ts.length
    · have hll : (mkL n (ts.take j) ++ ts.drop j).length = ts.length := by rw [List.length_append, mkL_len, List.length_take, List.length_drop]; omega
      obtain ⟨g, cap, e, hg1, hg2, cells, hgc⟩ := Kd.S_form HO.out (by rw [hll]; omega)
      rw [hll] at e
      injection e with eA en ec
      subst eA
      clear en ec
      obtain ⟨u, hx0, hx1, hx2, ho, _, hback⟩ := ST_mark HO.out j hlt
      rw [mkL_rd hlt] at hx0 hx1 ho
      have Hback := Aside0.mk hback
      have hf := blk_frozen hgc
      have hf0 := hf (j * 3)
      have hf1 := hf (j * 3 + 1)
      have HS := Aside0.mk (mkL_set (n := n) hlt)
      have HM := Aside0.mk (mkN_step hlt)
      have hm := mkN_take (ts := ts) (j + 1)
      have hsum : n + mkN (ts.take j) + (rdT ts j).2.2.length + 2 ≤ n + mkN ts := by have := HM.out; omega
      obtain ⟨xs, hxs, HX⟩ : ∃ xs, (rdT ts j).2.2 = xs ∧ Aside0 ((rdT ts j).2.2 = xs) := ⟨_, rfl, ⟨rfl⟩⟩
      obtain ⟨K, hK, HK⟩ : ∃ K : Int, n + mkN (ts.take j) = K ∧ Aside0 (n + mkN (ts.take j) = K) := ⟨_, rfl, ⟨rfl⟩⟩
      rw [hxs] at ho hsum
      rw [hK] at hsum ⊢
      have hK0 : 0 ≤ K := by omega
      have HO2 := Aside0.mk (OI_farv (OI_farv ho hgc (by decide) (j := j * 3) (.int .i64 K)) (blk_put hgc (j * 3) _ rfl) (by decide) (j := j * 3 + 1) (.int .i64 (K + 1)))
      have HB2 := Aside0.mk (below_set (below_set HB.out (g := g) (j := j * 3) (v := .int .i64 K) hg1) (g := g) (j := j * 3 + 1) (v := .int .i64 (K + 1)) hg1)
      clear hxs hK hback ho hgc hf hm hll
      go_wp2_with fail
      refine (markIntS_c xs u (K + 1 + 1) _ w0 _ HO2.out HB2.out (by omega) (by omega) (by omega)).mono ?_
      rintro e w1 ⟨rfl, ho, hb, hk⟩
      have HO3 : Aside0 (ST w1 w0.heap.size (.slice (some ⟨g, 0, none⟩) ts.length c) (mkL n (ts.take (j + 1)) ++ ts.drop (j + 1))) := ⟨by
        have h := Hback.out K (K + 1) w1 _ hk ho
        have h2 := HS.out
        rw [HK.out, HX.out, show K + 2 = K + 1 + 1 by omega] at h2
        rwa [h2] at h⟩
      have HB3 := Aside0.mk hb
      clear ho hb hk
      go_wp2
      go_roundw
      case rel => exact ⟨j + 1, by omega, by go_num, by have := HM.out; have := HK.out; have := HX.out; rw [this] at HM; congr 1; have := HM.out; omega, HO3, HB3⟩
      case measure => simp [intOf]; omega
    · have He := Aside0.mk (show ts.take j = ts from List.take_of_length_le (by omega))
      have hd : Aside0 (ts.drop j = []) := ⟨List.drop_of_length_le (by omega)⟩
      go_wp2
      go_ret
      exact ⟨ret_int (by rw [He.out]), by have := HO.out; rwa [He.out, hd.out, List.append_nil] at this, HB.out⟩
end Go.Proofs.Ytgddmgcneefeeaa.M
