/- Tables: the cover that an order of the rows makes; the program's function and the reference's. -/
import Derived.Test.YtgddmgcneefeeaaT5
import Derived.RegionTactic
import Derived.ChangeAlike
import Derived.BigRegion
import Derived.Deep.DeepCutAuto
set_option linter.unusedVariables false
set_option linter.unusedSimpArgs false
namespace Go.Proofs.Ytgddmgcneefeeaa.M
open Go.RowKit Go.Proofs.YtgddmgcneefeeaaW.PrintWords
def covTo (m order : List Int) : Nat → Int × List Int
  | 0 => (0, List.replicate m.length 0)
  | k + 1 => (bits .or .i64 (covTo m order k).1 (rd m (rd order k)), (covTo m order k).2.set (rd order k).toNat (bits .or .i64 (covTo m order k).1 (rd m (rd order k))))
def cov (m order : List Int) : List Int := (covTo m order order.length).2
set_option maxHeartbeats 1600000 in
set_option maxRecDepth 100000 in
theorem cover_c (c : Nat) (m order : List Int) (hl6 : m.length ≤ 6) (hol : order.length ≤ 1000000) (hord : ∀ x ∈ order, 0 ≤ x ∧ x < m.length) (A A1 : Option Addr) (k k1 : Nat) (w : World) (hr : I.C w A m.length m) (hr1 : I.C w A1 order.length order) :
    Calls Try.prog 52 #[.agg #[.int .i64 (m.length : Int), .int .i64 (c : Int), .slice A m.length k], .slice A1 order.length k1] w fun e w' =>
      ∃ v, e = .returned (.agg #[.int .i64 (m.length : Int), .int .i64 (c : Int), v]) ∧ OI w' w.heap.size v (cov m order) ∧ Below w.heap.size w w' := by
  have HR := Aside0.mk hr
  have HR1 := Aside0.mk hr1
  have hmk := print_make (P := Try.prog) 22 3 .i64 8 Try.underlying22 infoI (by omega) m.length (by omega)
  clear hr hr1
  go_enter Try.func52, Try.ntmps52
  go_upto_region 1 with (fail)
  go_cut [5, 6] (fun s5 s6 wc => ∃ (gb gs : Nat), s5 = .pointer (some ⟨gb, 0, none⟩) ∧ s6 = .int .i64 0 ∧ Aside0 (w.heap.size ≤ gb) ∧ Aside0 (Below w.heap.size w wc) ∧ Aside0 (w.heap.size + 1 < gb) ∧ Aside0 (w.heap.size + 1 < gs) ∧
    Aside0 (wc.heap[w.heap.size]? = some (.cells #[.int .i64 (m.length : Int), .int .i64 (c : Int), .slice A m.length k] 29 (0, 0))) ∧
    Aside0 (wc.heap[w.heap.size + 1]? = some (.cells #[.int .i64 0, .int .i64 0, .slice none 0 0] 29 (0, 0))) ∧
    Aside0 (wc.heap[gb]? = some (.cells #[.int .i64 (m.length : Int), .int .i64 (c : Int), .slice (some ⟨gs, 0, none⟩) m.length m.length] 29 (0, 0))) ∧
    Aside0 (OI wc w.heap.size (.slice (some ⟨gs, 0, none⟩) m.length m.length) (List.replicate m.length 0)))
  case first =>
    go_region
    all_goals (go_wp2_with fail; go_meet)
    case rel => exact ⟨w.heap.size + 1 + 1 + 1, w.heap.size + 1 + 1, rfl, rfl, ⟨by omega⟩, ⟨by repeat (first | (with_reducible exact Below.refl _ _) | (with_reducible apply below_drew1) | (with_reducible apply below_alloc))⟩, ⟨by omega⟩, ⟨by omega⟩, ⟨by repeat (first | (with_reducible refine blk_drew ?_) | (with_reducible refine blk_this ?_; (simp; done)) | (with_reducible refine blk_alloc ?_ _))⟩, ⟨by repeat (first | (with_reducible refine blk_drew ?_) | (with_reducible refine blk_this ?_; (simp; done)) | (with_reducible refine blk_alloc ?_ _))⟩, ⟨by repeat (first | (with_reducible refine blk_drew ?_) | (with_reducible refine blk_this ?_; (simp; done)) | (with_reducible refine blk_alloc ?_ _))⟩,
      ⟨by repeat (first | (with_reducible apply Kd.R_drew) | (with_reducible refine OI_made (by simp) (by first | (simp; done) | (simp; omega)) (by omega)) | (with_reducible apply Kd.R_alloc))⟩⟩
    case rel => exact ⟨w.heap.size + 1 + 1, w.heap.size + 1 + 1 + 1, rfl, rfl, ⟨by omega⟩, ⟨by repeat (first | (with_reducible exact Below.refl _ _) | (with_reducible apply below_drew1) | (with_reducible apply below_alloc))⟩, ⟨by omega⟩, ⟨by omega⟩, ⟨by repeat (first | (with_reducible refine blk_drew ?_) | (with_reducible refine blk_this ?_; (simp; done)) | (with_reducible refine blk_alloc ?_ _))⟩, ⟨by repeat (first | (with_reducible refine blk_drew ?_) | (with_reducible refine blk_this ?_; (simp; done)) | (with_reducible refine blk_alloc ?_ _))⟩, ⟨by repeat (first | (with_reducible refine blk_drew ?_) | (with_reducible refine blk_this ?_; (simp; done)) | (with_reducible refine blk_alloc ?_ _))⟩,
      ⟨by repeat (first | (with_reducible apply Kd.R_drew) | (with_reducible refine OI_made (by simp) (by first | (simp; done) | (simp; omega)) (by omega)) | (with_reducible apply Kd.R_alloc))⟩⟩
  case rest =>
    obtain ⟨gb, gs, rfl, rfl, h1, h2, h3, h4, h5, h6, h7, h8⟩ := hcut
    go_wp2_with fail
    go_loopw [6, 19] (fun s i wr => ∃ j : Nat, j ≤ order.length ∧ i = .int .i64 j ∧ s = .int .i64 (covTo m order j).1 ∧ Aside0 (Below w.heap.size w wr) ∧
      Aside0 (wr.heap[w.heap.size]? = some (.cells #[.int .i64 (m.length : Int), .int .i64 (c : Int), .slice A m.length k] 29 (0, 0))) ∧
      Aside0 (wr.heap[w.heap.size + 1]? = some (.cells #[.int .i64 0, .int .i64 0, .slice none 0 0] 29 (0, 0))) ∧
      Aside0 (wr.heap[gb]? = some (.cells #[.int .i64 (m.length : Int), .int .i64 (c : Int), .slice (some ⟨gs, 0, none⟩) m.length m.length] 29 (0, 0))) ∧
      Aside0 (OI wr w.heap.size (.slice (some ⟨gs, 0, none⟩) m.length m.length) (covTo m order j).2)) (fun _ i _ => order.length - (intOf i).toNat)
    case atStart => exact ⟨0, Nat.zero_le _, rfl, rfl, h2, h5, h6, h7, h8⟩
    case round =>
      clear h2 h5 h6 h7 h8
      obtain ⟨j, hj, rfl, rfl, h2, h5, h6, h7, h8⟩ := hrel
      obtain ⟨hx0, hx1, hx2⟩ := box3 h5.out
      obtain ⟨hy0, hy1, hy2⟩ := box3 h7.out
      obtain ⟨z, hz⟩ : ∃ z, z = (covTo m order j).1 := ⟨_, rfl⟩
      rw [← hz]
      have HZ := Aside0.mk hz
      clear hz
      by_cases hlt : j < order.length
      · obtain ⟨ad1, rfl, hc1⟩ := Kd.at_int (Kd.C_below HR1.out h2.out) j (by omega) (by omega)
        rw [Int.toNat_natCast] at hc1
        have hq := hord _ (rd_mem (l := order) (i := (j : Int)) (by omega) (by omega))
        obtain ⟨q, hqe⟩ : ∃ q, q = rd order j := ⟨_, rfl⟩
        rw [← hqe] at hc1 hq
        have HQ := Aside0.mk hqe
        obtain ⟨hq0, hq1⟩ := hq
        obtain ⟨ad, rfl, hc⟩ := Kd.at_int (Kd.C_below HR.out h2.out) q (by omega) (by omega)
        obtain ⟨hs1, hs2⟩ := OI_at h8.out q hq0 hq1
        clear hqe
        go_wp2
        go_roundw
        case rel => exact ⟨j + 1, by omega, by go_num, by simp only [covTo, ← HZ.out, ← HQ.out], ⟨below_set h2.out (by have := h4.out; omega)⟩, ⟨blk_far h5.out (by have := h4.out; show w.heap.size ≠ gs; omega) _⟩, ⟨blk_far h6.out (by have := h4.out; show w.heap.size + 1 ≠ gs; omega) _⟩, ⟨blk_far h7.out (by have h := Kd.R_ne h8.out h7.out (by decide); intro e; exact h (by rw [e]; rfl)) _⟩,
          ⟨by have := OI_set h8.out q (bits .or .i64 z (rd m q)); simpa only [covTo, ← HZ.out, ← HQ.out] using this⟩⟩
        case measure => simp [intOf]; omega
      · obtain ⟨hz0, hz1, hz2⟩ := box3 h6.out
        have hf0 := blk_frozen h6.out 0
        have hf1 := blk_frozen h6.out 1
        have hf2 := blk_frozen h6.out 2
        go_wp2
        refine bodyPost_ret (results_cell_row rfl _ _ (w.heap.size + 1) 29 #[.int .i64 (m.length : Int), .int .i64 (c : Int), .slice (some ⟨gs, 0, none⟩) m.length m.length] (0, 0) _ rfl (put3 h6.out) Try.underlying29 rfl (by kernel_rfl)) rfl ⟨_, rfl, ?_, ?_⟩
        · have h := OI_far (OI_far (OI_far h8.out h6.out (by decide) (j := 0) (.int .i64 (m.length : Int))) (blk_put h6.out 0 _ rfl) (by decide) (j := 1) (.int .i64 (c : Int))) (blk_put (blk_put h6.out 0 _ rfl) 1 _ rfl) (by decide) (j := 2) (.slice (some ⟨gs, 0, none⟩) m.length m.length)
          rwa [show j = order.length by omega] at h
        · exact below_set (below_set (below_set h2.out (by omega)) (by omega)) (by omega)
set_option maxHeartbeats 1600000 in
set_option maxRecDepth 100000 in
theorem feCover_c (c : Nat) (m order : List Int) (hl6 : m.length ≤ 6) (hol : order.length ≤ 1000000) (hord : ∀ x ∈ order, 0 ≤ x ∧ x < m.length) (A A1 : Option Addr) (k k1 : Nat) (w : World) (hr : I.C w A m.length m) (hr1 : I.C w A1 order.length order) :
    Calls Try.prog 49 #[.agg #[.int .i64 (m.length : Int), .int .i64 (c : Int), .slice A m.length k], .slice A1 order.length k1] w fun e w' =>
      ∃ v, e = .returned (.agg #[.int .i64 (m.length : Int), .int .i64 (c : Int), v]) ∧ OI w' w.heap.size v (cov m order) ∧ Below w.heap.size w w' := by
  have HR := Aside0.mk hr
  have HR1 := Aside0.mk hr1
  have hmk := print_make (P := Try.prog) 22 3 .i64 8 Try.underlying22 infoI (by omega) m.length (by omega)
  clear hr hr1
  go_enter Try.func49, Try.ntmps49
  go_upto_region 1 with (fail)
  go_cut [5] (fun s5 wc => ∃ (gb gs : Nat), s5 = .pointer (some ⟨gb, 0, none⟩) ∧ Aside0 (w.heap.size ≤ gb) ∧ Aside0 (Below w.heap.size w wc) ∧ Aside0 (w.heap.size + 1 < gb) ∧ Aside0 (w.heap.size + 1 < gs) ∧
    Aside0 (wc.heap[w.heap.size]? = some (.cells #[.int .i64 (m.length : Int), .int .i64 (c : Int), .slice A m.length k] 29 (0, 0))) ∧
    Aside0 (wc.heap[w.heap.size + 1]? = some (.cells #[.int .i64 0, .int .i64 0, .slice none 0 0] 29 (0, 0))) ∧
    Aside0 (wc.heap[gb]? = some (.cells #[.int .i64 (m.length : Int), .int .i64 (c : Int), .slice (some ⟨gs, 0, none⟩) m.length m.length] 29 (0, 0))) ∧
    Aside0 (OI wc w.heap.size (.slice (some ⟨gs, 0, none⟩) m.length m.length) (List.replicate m.length 0)))
  case first =>
    go_region
    all_goals (go_wp2_with fail; go_meet)
    case rel => exact ⟨w.heap.size + 1 + 1 + 1, w.heap.size + 1 + 1, rfl, ⟨by omega⟩, ⟨by repeat (first | (with_reducible exact Below.refl _ _) | (with_reducible apply below_drew1) | (with_reducible apply below_alloc))⟩, ⟨by omega⟩, ⟨by omega⟩, ⟨by repeat (first | (with_reducible refine blk_drew ?_) | (with_reducible refine blk_this ?_; (simp; done)) | (with_reducible refine blk_alloc ?_ _))⟩, ⟨by repeat (first | (with_reducible refine blk_drew ?_) | (with_reducible refine blk_this ?_; (simp; done)) | (with_reducible refine blk_alloc ?_ _))⟩, ⟨by repeat (first | (with_reducible refine blk_drew ?_) | (with_reducible refine blk_this ?_; (simp; done)) | (with_reducible refine blk_alloc ?_ _))⟩,
      ⟨by repeat (first | (with_reducible apply Kd.R_drew) | (with_reducible refine OI_made (by simp) (by first | (simp; done) | (simp; omega)) (by omega)) | (with_reducible apply Kd.R_alloc))⟩⟩
    case rel => exact ⟨w.heap.size + 1 + 1, w.heap.size + 1 + 1 + 1, rfl, ⟨by omega⟩, ⟨by repeat (first | (with_reducible exact Below.refl _ _) | (with_reducible apply below_drew1) | (with_reducible apply below_alloc))⟩, ⟨by omega⟩, ⟨by omega⟩, ⟨by repeat (first | (with_reducible refine blk_drew ?_) | (with_reducible refine blk_this ?_; (simp; done)) | (with_reducible refine blk_alloc ?_ _))⟩, ⟨by repeat (first | (with_reducible refine blk_drew ?_) | (with_reducible refine blk_this ?_; (simp; done)) | (with_reducible refine blk_alloc ?_ _))⟩, ⟨by repeat (first | (with_reducible refine blk_drew ?_) | (with_reducible refine blk_this ?_; (simp; done)) | (with_reducible refine blk_alloc ?_ _))⟩,
      ⟨by repeat (first | (with_reducible apply Kd.R_drew) | (with_reducible refine OI_made (by simp) (by first | (simp; done) | (simp; omega)) (by omega)) | (with_reducible apply Kd.R_alloc))⟩⟩
  case rest =>
    obtain ⟨gb, gs, rfl, h1, h2, h3, h4, h5, h6, h7, h8⟩ := hcut
    go_wp2_with fail
    go_loopw [6, 19] (fun s i wr => ∃ j : Nat, j ≤ order.length ∧ i = .int .i64 j ∧ s = .int .i64 (covTo m order j).1 ∧ Aside0 (Below w.heap.size w wr) ∧
      Aside0 (wr.heap[w.heap.size]? = some (.cells #[.int .i64 (m.length : Int), .int .i64 (c : Int), .slice A m.length k] 29 (0, 0))) ∧
      Aside0 (wr.heap[w.heap.size + 1]? = some (.cells #[.int .i64 0, .int .i64 0, .slice none 0 0] 29 (0, 0))) ∧
      Aside0 (wr.heap[gb]? = some (.cells #[.int .i64 (m.length : Int), .int .i64 (c : Int), .slice (some ⟨gs, 0, none⟩) m.length m.length] 29 (0, 0))) ∧
      Aside0 (OI wr w.heap.size (.slice (some ⟨gs, 0, none⟩) m.length m.length) (covTo m order j).2)) (fun _ i _ => order.length - (intOf i).toNat)
    case atStart => exact ⟨0, Nat.zero_le _, rfl, rfl, h2, h5, h6, h7, h8⟩
    case round =>
      clear h2 h5 h6 h7 h8
      obtain ⟨j, hj, rfl, rfl, h2, h5, h6, h7, h8⟩ := hrel
      obtain ⟨hx0, hx1, hx2⟩ := box3 h5.out
      obtain ⟨hy0, hy1, hy2⟩ := box3 h7.out
      obtain ⟨z, hz⟩ : ∃ z, z = (covTo m order j).1 := ⟨_, rfl⟩
      rw [← hz]
      have HZ := Aside0.mk hz
      clear hz
      by_cases hlt : j < order.length
      · obtain ⟨ad1, rfl, hc1⟩ := Kd.at_int (Kd.C_below HR1.out h2.out) j (by omega) (by omega)
        rw [Int.toNat_natCast] at hc1
        have hq := hord _ (rd_mem (l := order) (i := (j : Int)) (by omega) (by omega))
        obtain ⟨q, hqe⟩ : ∃ q, q = rd order j := ⟨_, rfl⟩
        rw [← hqe] at hc1 hq
        have HQ := Aside0.mk hqe
        obtain ⟨hq0, hq1⟩ := hq
        obtain ⟨ad, rfl, hc⟩ := Kd.at_int (Kd.C_below HR.out h2.out) q (by omega) (by omega)
        obtain ⟨hs1, hs2⟩ := OI_at h8.out q hq0 hq1
        clear hqe
        go_wp2
        go_roundw
        case rel => exact ⟨j + 1, by omega, by go_num, by simp only [covTo, ← HZ.out, ← HQ.out], ⟨below_set h2.out (by have := h4.out; omega)⟩, ⟨blk_far h5.out (by have := h4.out; show w.heap.size ≠ gs; omega) _⟩, ⟨blk_far h6.out (by have := h4.out; show w.heap.size + 1 ≠ gs; omega) _⟩, ⟨blk_far h7.out (by have h := Kd.R_ne h8.out h7.out (by decide); intro e; exact h (by rw [e]; rfl)) _⟩,
          ⟨by have := OI_set h8.out q (bits .or .i64 z (rd m q)); simpa only [covTo, ← HZ.out, ← HQ.out] using this⟩⟩
        case measure => simp [intOf]; omega
      · obtain ⟨hz0, hz1, hz2⟩ := box3 h6.out
        have hf0 := blk_frozen h6.out 0
        have hf1 := blk_frozen h6.out 1
        have hf2 := blk_frozen h6.out 2
        go_wp2
        refine bodyPost_ret (results_cell_row rfl _ _ (w.heap.size + 1) 29 #[.int .i64 (m.length : Int), .int .i64 (c : Int), .slice (some ⟨gs, 0, none⟩) m.length m.length] (0, 0) _ rfl (put3 h6.out) Try.underlying29 rfl (by kernel_rfl)) rfl ⟨_, rfl, ?_, ?_⟩
        · have h := OI_far (OI_far (OI_far h8.out h6.out (by decide) (j := 0) (.int .i64 (m.length : Int))) (blk_put h6.out 0 _ rfl) (by decide) (j := 1) (.int .i64 (c : Int))) (blk_put (blk_put h6.out 0 _ rfl) 1 _ rfl) (by decide) (j := 2) (.slice (some ⟨gs, 0, none⟩) m.length m.length)
          rwa [show j = order.length by omega] at h
        · exact below_set (below_set (below_set h2.out (by omega)) (by omega)) (by omega)
end Go.Proofs.Ytgddmgcneefeeaa.M
