/- The laws' helpers on ints and lists of ints. -/
import Derived.Test.YtgffgmfjoepjoaaDoorC1
set_option linter.unusedVariables false
set_option linter.unusedSimpArgs false
namespace Go.Proofs.YtgffgmfjoepjoaaDoor.M
open Go.RowKit Go.Proofs.YtgffgmfjoepjoaaDoorW.PrintWords
theorem eqn_of_rd {xs ys : List Int} (h : xs.length = ys.length) (hi : ∀ i : Nat, i < xs.length → rd xs i = rd ys i) : xs = ys := by
  refine List.ext_getElem h fun i h1 h2 => ?_
  have := hi i h1
  simpa [rd, List.getD_eq_getElem?_getD, h1, h2] using this
set_option maxHeartbeats 800000 in
set_option maxRecDepth 100000 in
theorem eqIntS_c (xs ys : List Int) (A A1 : Option Addr) (c c1 : Nat) (w : World) (hr : I.C w A xs.length xs) (hr1 : I.C w A1 ys.length ys) :
    Calls Tryd.prog 134 #[.slice A xs.length c, .slice A1 ys.length c1] w fun e w' => e = .returned (.bool (xs == ys)) ∧ ∃ m, w' = w.drewN m := by
  have HR := Aside0.mk hr
  have HR1 := Aside0.mk hr1
  have hl := hr.2.1
  clear hr hr1
  by_cases hlen : xs.length = ys.length
  · have hq : ((xs.length : Int) != (ys.length : Int)) = false := by simp [hlen]
    have HL := Aside0.mk hlen
    have hlen1 : xs.length ≤ ys.length := by omega
    clear hlen
    go_enter Tryd.func134, Tryd.ntmps134
    go_wp2
    go_loopw [5] (fun i wr => ∃ j d : Nat, j ≤ xs.length ∧ i = .int .i64 j ∧ Aside0 (∀ i : Nat, i < j → rd xs i = rd ys i) ∧ wr = w.drewN d) (fun i _ => xs.length - (intOf i).toNat)
    case atStart => exact ⟨0, 0, Nat.zero_le _, rfl, ⟨fun i hi => by omega⟩, rfl⟩
    case round =>
      obtain ⟨j, d, hj, rfl, HF, rfl⟩ := hrel
      by_cases hlt : j < xs.length
      · obtain ⟨ad, rfl, hc⟩ := Kd.at_int HR.out j (by omega) (by omega)
        obtain ⟨ad1, rfl, hc1⟩ := Kd.at_int HR1.out j (by omega) (by omega)
        rw [Int.toNat_natCast] at hc hc1
        by_cases he : rd xs j = rd ys j
        · have hq1 : (rd xs j != rd ys j) = false := by simp [he]
          have He := Aside0.mk he
          clear he
          go_wp2
          go_quiet (fail)
          go_wp2
          go_roundw
          case rel => exact ⟨j + 1, d + nq, by omega, by go_num, ⟨fun i hi => by rcases Nat.lt_or_ge i j with h | h; exact HF.out i h; rw [show i = j by omega]; exact He.out⟩, by simp [World.drewN_drewN]⟩
          case measure => simp [intOf]; omega
        · have hq1 : (rd xs j != rd ys j) = true := by simp [he]
          have He : Aside0 ((xs == ys) = false) := ⟨by rw [beq_eq_false_iff_ne]; exact fun h => he (by rw [h])⟩
          clear he
          go_wp2
          go_quiet (fail)
          go_wp2
          go_ret
          exact ⟨ret_bool He.out.symm, _, World.drewN_drewN ..⟩
      · have He : Aside0 ((xs == ys) = true) := ⟨by rw [beq_iff_eq]; exact eqn_of_rd HL.out (fun i hi => HF.out i (by omega))⟩
        go_wp2
        go_ret
        exact ⟨ret_bool He.out.symm, d, rfl⟩
  · have hq : ((xs.length : Int) != (ys.length : Int)) = true := by simp; omega
    have He : Aside0 ((xs == ys) = false) := ⟨by rw [beq_eq_false_iff_ne]; exact fun h => hlen (by rw [h])⟩
    clear hlen
    go_enter Tryd.func134, Tryd.ntmps134
    go_wp2
    go_ret
    exact ⟨ret_bool He.out.symm, 0, rfl⟩
/-- What is left of a budget behind a list of n numbers. -/
def szI (n : Nat) (a : Int) : Int := if a - n < 0 then -1 else a - n
set_option maxHeartbeats 400000 in
theorem szIntS_c (xs : List Int) (A : Option Addr) (c : Nat) (a : Int) (w : World) (h0 : 0 ≤ a) (h1 : a ≤ 1000000000) (hl : xs.length ≤ 9223372036854775807) :
    Calls Tryd.prog 135 #[.slice A xs.length c, .int .i64 a] w fun e w' => e = .returned (.int .i64 (szI xs.length a)) ∧ w' = w := by
  have hw : IntKind.i64.wrap (a - (xs.length : Int)) = a - xs.length := by rw [IntKind.wrap_i64]; omega
  by_cases h : a - (xs.length : Int) < 0
  · have hs : Aside0 (szI xs.length a = -1) := ⟨by rw [szI, if_pos h]⟩
    go_enter Tryd.func135, Tryd.ntmps135
    go_wp2
    go_ret
    exact ⟨ret_int hs.out.symm, rfl⟩
  · have hs : Aside0 (szI xs.length a = a - xs.length) := ⟨by rw [szI, if_neg h]⟩
    go_enter Tryd.func135, Tryd.ntmps135
    go_wp2
    go_ret
    exact ⟨ret_int hs.out.symm, rfl⟩
/-- Are the numbers n, n+1, ..? What comes behind them, or -1. -/
def heldI (xs : List Int) (n : Int) : Int := if (List.range xs.length).all (fun i : Nat => rd xs i == n + i) then n + xs.length else -1
set_option maxHeartbeats 800000 in
theorem heldIntS_c (xs : List Int) (A : Option Addr) (c : Nat) (n : Int) (w : World) (hr : I.C w A xs.length xs) (h0 : 0 ≤ n) (h1 : n ≤ 1000000000) (hl : xs.length ≤ 1000000000) :
    Calls Tryd.prog 91 #[.slice A xs.length c, .int .i64 n] w fun e w' => e = .returned (.int .i64 (heldI xs n)) ∧ w' = w := by
  have HR := Aside0.mk hr
  clear hr
  go_enter Tryd.func91, Tryd.ntmps91
  go_wp2
  go_loopw [1, 5] (fun q i wr => ∃ j : Nat, j ≤ xs.length ∧ i = .int .i64 j ∧ q = .int .i64 (n + j) ∧ Aside0 (∀ i : Nat, i < j → rd xs i = n + i) ∧ wr = w) (fun _ i _ => xs.length - (intOf i).toNat)
  case atStart => exact ⟨0, Nat.zero_le _, rfl, by simp, ⟨fun i hi => by omega⟩, rfl⟩
  case round =>
    obtain ⟨j, hj, rfl, rfl, HF, rfl⟩ := hrel
    by_cases hlt : j < xs.length
    · obtain ⟨ad, rfl, hc⟩ := Kd.at_int HR.out j (by omega) (by omega)
      rw [Int.toNat_natCast] at hc
      by_cases he : rd xs j = n + j
      · have hq1 : (rd xs j != n + j) = false := by simp [he]
        have He := Aside0.mk he
        clear he
        go_wp2
        go_roundw
        case rel => exact ⟨j + 1, by omega, by go_num, by go_num, ⟨fun i hi => by rcases Nat.lt_or_ge i j with h | h; exact HF.out i h; rw [show i = j by omega]; exact He.out⟩, trivial⟩
        case measure => simp [intOf]; omega
      · have hq1 : (rd xs j != n + j) = true := by simp [he]
        have He : Aside0 (heldI xs n = -1) := ⟨by rw [heldI, if_neg]; rw [List.all_eq_true]; exact fun h => he (by simpa using h j (by simpa using hlt))⟩
        clear he
        go_wp2
        go_ret
        exact ⟨ret_int He.out.symm, rfl⟩
    · have He : Aside0 (heldI xs n = n + j) := ⟨by rw [heldI, if_pos, show xs.length = j by omega]; rw [List.all_eq_true]; exact fun i hi => by rw [beq_iff_eq]; exact HF.out i (by have := List.mem_range.1 hi; omega)⟩
      go_wp2
      go_ret
      exact ⟨ret_int He.out.symm, rfl⟩
set_option maxHeartbeats 800000 in
set_option maxRecDepth 100000 in
theorem toIntS_c (xs : List Int) (A : Option Addr) (c : Nat) (w : World) (hr : I.C w A xs.length xs) (hl : xs.length ≤ 1000000000) :
    Calls Tryd.prog 138 #[.slice A xs.length c] w fun e w' => ∃ v, e = .returned v ∧ OI w' w.heap.size v xs ∧ Below w.heap.size w w' := by
  have HR := Aside0.mk hr
  have hmk := print_make (P := Tryd.prog) 32 3 .i64 8 Tryd.underlying32 infoI (by omega) xs.length (by omega)
  clear hr
  have hE : Aside0 (OI (w.alloc (.cells (madeCells #[.int .i64 0] xs.length) 3)) w.heap.size (.slice (some ⟨w.heap.size, 0, none⟩) xs.length xs.length) (List.replicate xs.length 0)) := ⟨OI_made rfl (Nat.le_refl _) (by omega)⟩
  have hB := Aside0.mk (below_alloc (Below.refl w.heap.size w) (.cells (madeCells #[.int .i64 0] xs.length) 3))
  go_enter Tryd.func138, Tryd.ntmps138
  go_wp2
  go_loopw [4] (fun i wr => ∃ j : Nat, j ≤ xs.length ∧ i = .int .i64 j ∧ Aside0 (OI wr w.heap.size (.slice (some ⟨w.heap.size, 0, none⟩) xs.length xs.length) (xs.take j ++ List.replicate (xs.length - j) 0)) ∧ Aside0 (Below w.heap.size w wr)) (fun i _ => xs.length - (intOf i).toNat)
  case atStart => exact ⟨0, Nat.zero_le _, rfl, ⟨by simpa using hE.out⟩, hB⟩
  case round =>
    clear hE hB hmk
    obtain ⟨j, hj, rfl, HE, HB⟩ := hrel
    by_cases hlt : j < xs.length
    · obtain ⟨ad, rfl, hc⟩ := Kd.at_int (Kd.C_below HR.out HB.out) j (by omega) (by omega)
      obtain ⟨hs1, hs2⟩ := OI_at HE.out (j : Int) (by omega) (by omega)
      rw [Int.toNat_natCast] at hc hs1 hs2
      go_wp2
      go_roundw
      case rel =>
        refine ⟨j + 1, by omega, by go_num, ⟨?_⟩, ⟨below_set HB.out (Nat.le_refl _)⟩⟩
        have h := OI_set HE.out (j : Int) (rd xs j)
        rw [Int.toNat_natCast] at h
        have e : (xs.take j ++ List.replicate (xs.length - j) 0).set j (rd xs j) = xs.take (j + 1) ++ List.replicate (xs.length - (j + 1)) 0 := by
          rw [take_snoc hlt, show xs.length - j = (xs.length - (j + 1)) + 1 by omega, List.replicate_succ, List.set_append_right _ _ (by rw [List.length_take]; omega), List.length_take, show j - min j xs.length = 0 by omega, List.set_cons_zero, List.append_assoc]
          rfl
        rwa [e] at h
      case measure => simp [intOf]; omega
    · have HE1 := Aside0.mk (show OI wr w.heap.size (.slice (some ⟨w.heap.size, 0, none⟩) xs.length xs.length) xs by have := HE.out; rwa [show xs.length - j = 0 by omega, List.take_of_length_le (by omega), List.replicate_zero, List.append_nil] at this)
      go_wp2
      go_ret
      exact ⟨_, rfl, HE1.out, HB.out⟩
/-- n, n+1, .. -/
def cnt (n : Int) (k : Nat) : List Int := (List.range k).map fun i : Nat => n + i
theorem cnt_succ (n : Int) (k : Nat) : cnt n (k + 1) = cnt n k ++ [n + k] := by simp [cnt, List.range_succ]
theorem cnt_len (n : Int) (k : Nat) : (cnt n k).length = k := by simp [cnt]
theorem cnt_set {xs : List Int} {n : Int} {j : Nat} (h : j < xs.length) : (cnt n j ++ xs.drop j).set j (n + j) = cnt n (j + 1) ++ xs.drop (j + 1) := by
  rw [List.set_append_right _ _ (by rw [cnt_len]; omega), cnt_len, Nat.sub_self, List.drop_eq_getElem_cons h, List.set_cons_zero, cnt_succ, List.append_assoc]
  rfl
theorem held_cnt (n : Int) (k : Nat) : heldI (cnt n k) n = n + k := by
  rw [heldI, if_pos, cnt_len]
  rw [List.all_eq_true]
  intro i hi
  have := List.mem_range.1 hi
  rw [cnt_len] at this
  simp [rd, cnt, this]
/-- Nothing but block g of w has been written. -/
abbrev Only (g : Option Nat) (w w' : World) : Prop := w.grownBy w' g
set_option maxHeartbeats 800000 in
set_option maxRecDepth 100000 in
theorem markIntS_c (xs : List Int) (v : Value) (n : Int) (base : Nat) (w0 w : World) (hr : OI w base v xs) (hB : Below base w0 w) (h0 : 0 ≤ n) (h1 : n ≤ 1000000000) (hl : xs.length ≤ 1000000000) :
    Calls Tryd.prog 90 #[v, .int .i64 n] w fun e w' => e = .returned (.int .i64 (n + xs.length)) ∧ OI w' base v (cnt n xs.length) ∧ Below base w0 w' ∧ Only v.ownBlock w w' := by
  obtain ⟨A, c, rfl, _⟩ := OI_shape hr
  have HO := Aside0.mk hr
  have HB := Aside0.mk hB
  clear hr hB
  go_enter Tryd.func90, Tryd.ntmps90
  go_wp2
  go_loopw [1, 5] (fun q i wr => ∃ j : Nat, j ≤ xs.length ∧ i = .int .i64 j ∧ q = .int .i64 (n + j) ∧ Aside0 (OI wr base (.slice A xs.length c) (cnt n j ++ xs.drop j)) ∧ Aside0 (Below base w0 wr) ∧ Aside0 (Only (Value.slice A xs.length c).ownBlock w wr)) (fun _ i _ => xs.length - (intOf i).toNat)
  case atStart => exact ⟨0, Nat.zero_le _, rfl, by simp, ⟨by simpa [cnt] using HO.out⟩, HB, ⟨rfl, rfl, rfl, Nat.le_refl _, fun _ _ _ => rfl⟩⟩
  case round =>
    clear HO HB
    obtain ⟨j, hj, rfl, rfl, HO, HB, HK⟩ := hrel
    by_cases hlt : j < xs.length
    · obtain ⟨g, rfl, hg1, hg2⟩ := OI_block HO.out (by rw [List.length_append, cnt_len, List.length_drop]; omega)
      obtain ⟨hs1, hs2⟩ := OI_at HO.out (j : Int) (by omega) (by omega)
      rw [Int.toNat_natCast] at hs1 hs2
      go_wp2
      go_roundw
      case rel =>
        refine ⟨j + 1, by omega, by go_num, by go_num, ⟨?_⟩, ⟨?_⟩, ⟨?_⟩⟩
        · have h := OI_set HO.out (j : Int) (n + j)
          rw [Int.toNat_natCast, cnt_set hlt] at h
          exact h
        · have := HB.out
          exact ⟨this.os, this.tape, this.output, by simpa [World.setCell] using this.size, fun i hi => (Below.heap_setCell wr ⟨g, j, none⟩ _ i (by show i ≠ g; omega)).trans (this.block i hi)⟩
        · have := HK.out
          exact ⟨this.os, this.tape, this.output, by simpa [World.setCell] using this.size, fun i hlt hi => (Below.heap_setCell wr ⟨g, j, none⟩ _ i (fun e => hi (by rw [e]; rfl))).trans (this.block i hlt hi)⟩
      case measure => simp [intOf]; omega
    · have HO1 := Aside0.mk (show OI wr base (.slice A xs.length c) (cnt n xs.length) by have := HO.out; rwa [show j = xs.length by omega, List.drop_length, List.append_nil] at this)
      go_wp2
      go_ret
      exact ⟨ret_int (by omega), HO1.out, HB.out, HK.out⟩
end Go.Proofs.YtgffgmfjoepjoaaDoor.M
