/- Tables: the least order of the rows that shows that cells are free; the reference's function. -/
import Derived.Test.YtgddmgcneefeeaaT6
set_option linter.unusedVariables false
set_option linter.unusedSimpArgs false
namespace Go.Proofs.Ytgddmgcneefeeaa.M
open Go.RowKit Go.Proofs.YtgddmgcneefeeaaW.PrintWords
def ready (m : List Int) (C : Int) (cells out : List Int) (r : Int) : Bool := cells.all fun x => isIn out (x / C) || !has (rd m r) (x % C)
def okR (m : List Int) (C : Int) (cells out : List Int) (r : Int) : Bool := !isIn out r && ready m C cells out r
/-- The least number from r on, of d numbers, for which p is true, or -1. -/
def nx (p : Int → Bool) : Nat → Nat → Int
  | 0, _ => -1
  | d + 1, r => if p r then r else nx p d (r + 1)
theorem nx_step (p : Int → Bool) (d r : Nat) : nx p (d + 1) r = if p r then (r : Int) else nx p d (r + 1) := rfl
theorem nx_range (p : Int → Bool) : ∀ d r, nx p d r = -1 ∨ (r ≤ nx p d r ∧ nx p d r < r + d ∧ p (nx p d r) = true)
  | 0, r => .inl rfl
  | d + 1, r => by
    rw [nx_step]
    split
    · rename_i h; exact .inr ⟨by omega, by omega, h⟩
    · rcases nx_range p d (r + 1) with h | ⟨h1, h2, h3⟩
      · exact .inl h
      · exact .inr ⟨by omega, by omega, h3⟩
def ordTo (m : List Int) (C : Int) (cells : List Int) : Nat → Option (List Int)
  | 0 => some []
  | k + 1 => (ordTo m C cells k).bind fun out => if nx (okR m C cells out) m.length 0 < 0 then none else some (out ++ [nx (okR m C cells out) m.length 0])
def ord (m : List Int) (C : Int) (cells : List Int) : Option (List Int) := ordTo m C cells m.length
theorem ordTo_none {m : List Int} {C : Int} {cells : List Int} {k : Nat} (h : ordTo m C cells k = none) : ∀ n, k ≤ n → ordTo m C cells n = none
  | 0, hn => by rwa [show k = 0 by omega] at h
  | n + 1, hn => by
    rcases Nat.lt_or_ge n k with h1 | h1
    · rwa [show k = n + 1 by omega] at h
    · rw [ordTo, ordTo_none h n h1]; rfl
theorem ordTo_some {m : List Int} {C : Int} {cells : List Int} : ∀ {n : Nat} {out : List Int}, ordTo m C cells n = some out → out.length = n ∧ ∀ x ∈ out, 0 ≤ x ∧ x < m.length
  | 0, out, h => by cases h; exact ⟨rfl, fun x hx => by cases hx⟩
  | n + 1, out, h => by
    rw [ordTo] at h
    obtain ⟨o, ho, h⟩ := Option.bind_eq_some_iff.1 h
    obtain ⟨h1, h2⟩ := ordTo_some ho
    split at h
    · cases h
    · cases h
      rename_i hz
      refine ⟨by simp [h1], fun x hx => ?_⟩
      rcases List.mem_append.1 hx with hx | hx
      · exact h2 x hx
      · rw [List.mem_singleton.1 hx]
        rcases nx_range (okR m C cells o) m.length 0 with h | ⟨h3, h4, _⟩
        · omega
        · omega
theorem ready_snoc (m : List Int) (C : Int) (cells out : List Int) (r x : Int) : ready m C (cells ++ [x]) out r = (ready m C cells out r && (isIn out (x / C) || !has (rd m r) (x % C))) := by simp [ready]
theorem ord_next {m : List Int} {C : Int} {cells out : List Int} {q : Nat} {z : Int} (h : ordTo m C cells out.length = some out) (hz : z = nx (okR m C cells out) (m.length - q) q) (hq : q = 0) :
    ordTo m C cells (out.length + 1) = if z < 0 then none else some (out ++ [z]) := by subst hq; rw [ordTo, h, hz]; rfl
set_option maxHeartbeats 1600000 in
set_option maxRecDepth 100000 in
theorem feOrder_c (c : Nat) (m cells : List Int) (hv : VT c m) (A A1 : Option Addr) (k k1 : Nat) (w : World) (hr : I.C w A m.length m) (hr1 : I.C w A1 cells.length cells)
    (hcell : ∀ x ∈ cells, 0 ≤ x ∧ x ≤ 35) (hcl : cells.length ≤ 36) :
    Calls Try.prog 47 #[.agg #[.int .i64 (m.length : Int), .int .i64 (c : Int), .slice A m.length k], .slice A1 cells.length k1] w fun e w' =>
      ∃ v, e = .returned (.tuple #[v, .bool (ord m c cells).isSome]) ∧ OI w' w.heap.size v ((ord m c cells).getD []) ∧ Below w.heap.size w w' := by
  have HR := Aside0.mk hr
  have HR1 := Aside0.mk hr1
  have HV := Aside0.mk hv
  have hm6 := hv.l6
  have hC := hv.c1
  have hC6 := hv.c6
  obtain ⟨C, hCe⟩ : ∃ C : Int, C = c := ⟨_, rfl⟩
  rw [← hCe]
  have hC1 : 1 ≤ C := by omega
  have hC7 : C ≤ 6 := by omega
  clear hr hr1 hv hC hC6 hCe
  have hX := Aside0.mk (blk_new w (.cells #[.int .i64 (m.length : Int), .int .i64 C, .slice A m.length k] 29))
  have hB := Aside0.mk (below_alloc (Below.refl w.heap.size w) (.cells #[.int .i64 (m.length : Int), .int .i64 C, .slice A m.length k] 29))
  go_enter Try.func47, Try.ntmps47
  go_wp2
  go_loopw [6] (fun v wr => ∃ out : List Int, out.length ≤ m.length ∧ Aside0 (ordTo m C cells out.length = some out) ∧ Aside0 (OI wr w.heap.size v out) ∧ Aside0 (Below w.heap.size w wr) ∧
      Aside0 (wr.heap[w.heap.size]? = some (.cells #[.int .i64 (m.length : Int), .int .i64 C, .slice A m.length k] 29 (0, 0)))) (fun v _ => m.length - lenOf v)
  case atStart => exact ⟨[], Nat.zero_le _, ⟨rfl⟩, ⟨OI_nil _ _⟩, hB, hX⟩
  case round =>
    clear hX hB
    obtain ⟨out, hk, HO, HV6, HB, HX⟩ := hrel
    obtain ⟨A6, c6, rfl, _⟩ := OI_shape HV6.out
    obtain ⟨hx0, hx1, hx2⟩ := box3 HX.out
    by_cases hlt : out.length < m.length
    · go_wp2
      go_loopw [7, 8] (fun n r w2 => ∃ (q d : Nat), q ≤ m.length ∧ r = .int .i64 ((q : Int) - 1) ∧ n = .int .i64 (nx (okR m C cells out) (m.length - q) q) ∧ w2 = wr.drewN d) (fun _ r _ => (intOf r + 1).toNat)
      case atStart => exact ⟨m.length, 0, Nat.le_refl _, rfl, by simp [nx], rfl⟩
      case round =>
        obtain ⟨q, d, hq, rfl, rfl, rfl⟩ := hrel
        obtain ⟨z, hz⟩ : ∃ z, z = nx (okR m C cells out) (m.length - q) q := ⟨_, rfl⟩
        rw [← hz]
        have HZ := Aside0.mk hz
        clear hz
        have hc86 := Aside0.mk (Kd.R_reads' HV6.out).2.2
        by_cases h0 : 1 ≤ q
        · have hns : Aside0 (nx (okR m C cells out) (m.length - (q - 1)) (q - 1) = if okR m C cells out ((q : Int) - 1) then ((q : Int) - 1) else z) := by
            refine ⟨?_⟩
            rw [show m.length - (q - 1) = (m.length - q) + 1 by omega, nx_step, show q - 1 + 1 = q by omega, ← HZ.out, show ((q - 1 : Nat) : Int) = (q : Int) - 1 by omega]
          cases hcont : isIn out ((q : Int) - 1) with
          | true =>
            go_wp2_with (go_at_call 86; refine (l1Has_c out _ A6 c6 _ (Kd.C_drewN hc86.out _)).mono ?_; rintro e w' ⟨rfl, rfl⟩)
            go_roundw
            case rel => exact ⟨q - 1, d, by omega, by rw [show ((q - 1 : Nat) : Int) = (q : Int) - 1 by omega], by rw [hns.out, okR, hcont]; rfl, rfl⟩
            case measure => simp [intOf]; omega
          | false =>
            go_wp2_with (go_at_call 86; refine (l1Has_c out _ A6 c6 _ (Kd.C_drewN hc86.out _)).mono ?_; rintro e w' ⟨rfl, rfl⟩)
            go_loopw [9, 30] (fun b i w3 => ∃ (j d : Nat), j ≤ cells.length ∧ i = .int .i64 j ∧ b = .bool (ready m C (cells.take j) out ((q : Int) - 1)) ∧ w3 = wr.drewN d) (fun _ i _ => cells.length - (intOf i).toNat)
            case atStart => exact ⟨0, d, Nat.zero_le _, rfl, rfl, rfl⟩
            case round =>
              obtain ⟨j, d, hj, rfl, rfl, rfl⟩ := hrel
              obtain ⟨b, hb⟩ : ∃ b, b = ready m C (cells.take j) out ((q : Int) - 1) := ⟨_, rfl⟩
              rw [← hb]
              have Hb := Aside0.mk hb
              clear hb
              by_cases hj1 : j < cells.length
              · obtain ⟨ad, rfl, hc⟩ := Kd.at_int (Kd.C_below HR1.out HB.out) j (by omega) (by omega)
                rw [Int.toNat_natCast] at hc
                obtain ⟨hxp, hxl⟩ := hcell (rd cells j) (rd_mem (by omega) (by omega))
                obtain ⟨x, hxe⟩ : ∃ x, x = rd cells j := ⟨_, rfl⟩
                rw [← hxe] at hc hxp hxl
                have hrs : Aside0 (ready m C (cells.take (j + 1)) out ((q : Int) - 1) = (b && (isIn out (x / C) || !has (rd m ((q : Int) - 1)) (x % C)))) := ⟨by rw [take_snoc hj1, ready_snoc, ← Hb.out, ← hxe]⟩
                clear hxe
                cases hc2 : isIn out (x / C) with
                | true =>
                  go_wp2
                  go_quiet ((go_at_call 86; exact quiet_add_same (l1Has_c out _ A6 c6 _ (Kd.C_drewN hc86.out _))))
                  go_wp2
                  go_roundw
                  case rel => exact ⟨j + 1, d + nq, by omega, by go_num, by rw [hrs.out, hc2]; simp, by simp [World.drewN_drewN]⟩
                  case measure => simp [intOf]; omega
                | false =>
                  obtain ⟨adm, rfl, hcm⟩ := Kd.at_int (Kd.C_below HR.out HB.out) ((q : Int) - 1) (by omega) (by omega)
                  rw [show ((q : Int) - 1).toNat = q - 1 by omega] at hcm
                  have hmx := rd0 HV.out (i := (q : Int) - 1) (by omega) (by omega)
                  have hxc : x % C ≤ 63 := by have := Int.emod_lt_of_pos x (show 0 < C by omega); omega
                  have hxc0 : 0 ≤ x % C := Int.emod_nonneg _ (by omega)
                  cases hb2 : has (rd m ((q : Int) - 1)) (x % C)
                  all_goals
                    go_wp2
                    go_quiet (first | (go_at_call 86; exact quiet_add_same (l1Has_c out _ A6 c6 _ (Kd.C_drewN hc86.out _))) | (go_at_call 73; exact quiet_add_same (orHas_c _ _ _ hmx hxc0 hxc)))
                    go_wp2
                    go_roundw
                    case rel => exact ⟨j + 1, d + nq, by omega, by go_num, by rw [hrs.out, hc2, hb2]; simp, by simp [World.drewN_drewN]⟩
                    case measure => simp [intOf]; omega
              · have hrd : Aside0 (b = ready m C cells out ((q : Int) - 1)) := ⟨by rw [Hb.out, List.take_of_length_le (by omega)]⟩
                cases b
                all_goals
                  go_wp2
                  go_roundw
                  case rel => exact ⟨q - 1, d, by omega, by rw [show ((q - 1 : Nat) : Int) = (q : Int) - 1 by omega], by rw [hns.out, okR, hcont, ← hrd.out]; rfl, rfl⟩
                  case measure => simp [intOf]; omega
        · have hno := Aside0.mk (ord_next HO.out HZ.out (by omega))
          by_cases hz : z < 0
          · have hnone : Aside0 (ord m C cells = none) := ⟨ordTo_none (by rw [hno.out, if_pos hz]) _ hlt⟩
            go_wp2
            go_ret2
            exact ⟨.slice none 0 0, by rw [hnone.out]; rfl, by rw [hnone.out]; exact OI_nil _ _, pw_below_drewN HB.out _⟩
          · go_wp2_with (at_builtin; refine appI (.tmp 59) (.tmp 61) rfl rfl (.slice A6 out.length c6) out z rfl rfl (Kd.R_drewN HV6.out d) (pw_below_drewN HB.out d) HB.out.size (by omega) ?_; intro v1 w1 ho hb hg)
            obtain ⟨A7, c7, rfl, _⟩ := OI_shape ho
            go_roundw
            case rel => exact ⟨out ++ [z], by simp; omega, ⟨by rw [List.length_append, List.length_singleton, hno.out, if_neg hz]⟩, ⟨ho⟩, ⟨hb⟩, ⟨blk_grown (w := wr.drewN d) HX.out hg (Kd.R_ne HV6.out HX.out (by decide))⟩⟩
            case measure => simp [lenOf]; omega
    · have hlen : out.length = m.length := by omega
      have hs : Aside0 (ord m C cells = some out) := ⟨by rw [ord, ← hlen]; exact HO.out⟩
      clear hlen
      go_wp2
      go_ret2
      exact ⟨.slice A6 out.length c6, by rw [hs.out]; rfl, by rw [hs.out]; exact HV6.out, HB.out⟩
end Go.Proofs.Ytgddmgcneefeeaa.M
