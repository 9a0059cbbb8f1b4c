/- The program's relation: the relation that a function of two elements tells. -/
import Derived.Test.YtgffgmfjoepjoaaDoorO1
import Derived.Deep.RegionLaw
set_option linter.unusedVariables false
set_option linter.unusedSimpArgs false
namespace Go.Proofs.YtgffgmfjoepjoaaDoor.M
open Go.RowKit Go.Proofs.YtgffgmfjoepjoaaDoorW.PrintWords
/-- A list of n numbers by their index. -/
structure By (n : Nat) (g : Nat → Int) (L : List Int) : Prop where
  len : L.length = n
  at_ : ∀ r : Nat, r < n → rd L r = g r
theorem By.zero (n : Nat) : By n (fun _ => 0) (List.replicate n 0) := ⟨by simp, fun r hr => by simp [rd, hr]⟩
theorem By.congr {n : Nat} {g h : Nat → Int} {L : List Int} (b : By n g L) (e : ∀ r, r < n → g r = h r) : By n h L := ⟨b.len, fun r hr => by rw [b.at_ r hr, e r hr]⟩
theorem By.set {n : Nat} {g h : Nat → Int} {L : List Int} (b : By n g L) {i : Nat} (hi : i < n) {x : Int} (e : ∀ r, r < n → h r = if r = i then x else g r) : By n h (L.set i x) :=
  ⟨by rw [List.length_set, b.len], fun r hr => by rw [rd_set _ _ _ _ (by rw [b.len]; exact hi), e r hr]; split; rfl; exact b.at_ r hr⟩
theorem By.eq {n : Nat} {g : Nat → Int} {L : List Int} (b : By n g L) : L = (List.range n).map g := by
  apply List.ext_getElem
  · simp [b.len]
  · intro i h1 h2
    have := b.at_ i (by rw [← b.len]; exact h1)
    rw [rd, List.getD_eq_getElem?_getD, Int.toNat_natCast, List.getElem?_eq_getElem h1] at this
    rw [List.getElem_map, List.getElem_range]
    exact this
/-- The rows of a relation. -/
def relL (p : Nat → Nat → Bool) (n : Nat) : List Int := (List.range n).map fun i => setTo (p i) n
theorem relL_len (p : Nat → Nat → Bool) (n : Nat) : (relL p n).length = n := by simp [relL]
theorem relL_rd (p : Nat → Nat → Bool) {n i : Nat} (h : i < n) : rd (relL p n) i = setTo (p i) n := by simp [relL, rd, h]
theorem relL_VO (p : Nat → Nat → Bool) {n : Nat} (h : n ≤ 10) : VO (relL p n) := by
  have hm : ∀ x ∈ relL p n, 0 ≤ x ∧ x < 2 ^ n := fun x hx => by
    obtain ⟨i, _, rfl⟩ := List.mem_map.1 hx
    have := setTo_spec (p i) n (by omega)
    exact ⟨this.1, this.2.1⟩
  exact ⟨by rw [relL_len]; exact h, fun x hx => (hm x hx).1, fun x hx => by rw [relL_len]; exact (hm x hx).2⟩
theorem relL_bet (p : Nat → Nat → Bool) {n i j : Nat} (h : n ≤ 10) (hi : i < n) : bet (relL p n) i j = (decide (j < n) && p i j) := by
  rw [bet, relL_rd p hi, (setTo_spec (p i) n (by omega)).2.2]
/-- What is told so far: rows below i, and of row i the columns below j. -/
def relTo (p : Nat → Nat → Bool) (n i j r : Nat) : Int := if r < i then setTo (p r) n else if r = i then setTo (p i) j else 0
theorem relTo_start (p : Nat → Nat → Bool) (n r : Nat) : relTo p n 0 0 r = 0 := by
  rw [relTo, if_neg (by omega)]
  split <;> rfl
theorem relTo_row (p : Nat → Nat → Bool) (n i r : Nat) : relTo p n i n r = relTo p n (i + 1) 0 r := by
  simp only [relTo]
  by_cases h1 : r < i
  · rw [if_pos h1, if_pos (by omega)]
  · rw [if_neg h1]
    by_cases h2 : r = i
    · subst h2; rw [if_pos rfl, if_pos (by omega)]
    · rw [if_neg h2, if_neg (by omega)]
      split <;> rfl
theorem relTo_no {p : Nat → Nat → Bool} {n i j : Nat} (h : p i j = false) (r : Nat) : relTo p n i j r = relTo p n i (j + 1) r := by
  simp only [relTo, setTo, h]; rfl
theorem relTo_yes {p : Nat → Nat → Bool} {n i j : Nat} (h : p i j = true) (r : Nat) : relTo p n i (j + 1) r = if r = i then bits .or .i64 (setTo (p i) j) (2 ^ j) else relTo p n i j r := by
  simp only [relTo, setTo, h, if_true]
  by_cases h1 : r < i
  · rw [if_pos h1, if_neg (by omega), if_pos h1]
  · rw [if_neg h1]
    by_cases h2 : r = i
    · rw [if_pos h2, if_pos h2]
    · rw [if_neg h2, if_neg h2, if_neg h1, if_neg h2]
theorem relTo_at (p : Nat → Nat → Bool) (n i j : Nat) : relTo p n i j i = setTo (p i) j := by rw [relTo, if_neg (by omega), if_pos rfl]
set_option maxHeartbeats 1600000 in
set_option maxRecDepth 100000 in
theorem relation_c (n : Nat) (hn : n ≤ 10) (p : Nat → Nat → Bool) (f : FuncId) (caps : Array Value) (w : World) (hen : ∀ args w, (callFunc f args).run Tryd.prog w = .ok (.enter f args) w)
    (hf : ∀ (i j : Nat) (W : World), i < n → j < n → Below w.heap.size w W → Calls Tryd.prog f (#[.int .i64 (i : Int), .int .i64 (j : Int)] ++ caps) W fun e w' => e = .returned (.bool (p i j)) ∧ Below W.heap.size W w') :
    Calls Tryd.prog 165 #[.int .i64 (n : Int), .func (.func f) #[] caps] w fun e w' => ∃ v, e = .returned (.agg #[.int .i64 (n : Int), v]) ∧ OI w' w.heap.size v (relL p n) ∧ Below w.heap.size w w' := by
  have HF := Aside0.mk hf
  have hmk := print_make (P := Tryd.prog) 32 3 .i64 8 Tryd.underlying32 infoI (by omega) n (by omega)
  clear hf
  obtain ⟨X, hX⟩ : ∃ X, X = (w.alloc (.cells #[.int .i64 0, .slice none 0 0] 34)).alloc (.cells (madeCells #[.int .i64 0] n) 3) := ⟨_, rfl⟩
  have hXs : X.heap.size = w.heap.size + 1 + 1 := by subst hX; simp
  have hXB : Below w.heap.size w X := by subst hX; exact below_alloc (below_alloc (Below.refl _ _) _) _
  have hX4 : X.heap[w.heap.size]? = some (.cells #[.int .i64 0, .slice none 0 0] 34 (0, 0)) := by subst hX; exact blk_alloc (blk_new _ _) _
  have hXE : OI X w.heap.size (.slice (some ⟨w.heap.size + 1, 0, none⟩) n n) (List.replicate n 0) := by subst hX; exact OI_made (by simp) (by simp) (by omega)
  have HB0 := Aside0.mk (below_alloc hXB (.cells #[.int .i64 (n : Int), .slice (some ⟨w.heap.size + 1, 0, none⟩) n n] 34))
  have HX4 := Aside0.mk (blk_alloc hX4 (.cells #[.int .i64 (n : Int), .slice (some ⟨w.heap.size + 1, 0, none⟩) n n] 34))
  have HX5 := Aside0.mk (blk_this (o := .cells #[.int .i64 (n : Int), .slice (some ⟨w.heap.size + 1, 0, none⟩) n n] 34) hXs)
  have HE0 := Aside0.mk (Kd.R_alloc hXE (.cells #[.int .i64 (n : Int), .slice (some ⟨w.heap.size + 1, 0, none⟩) n n] 34))
  subst hX
  clear hXs hXB hX4 hXE
  go_enter Tryd.func165, Tryd.ntmps165
  go_wp2
  go_loopw [13] (fun i wr => ∃ (i0 : Nat) (L : List Int), i0 ≤ n ∧ i = .int .i64 i0 ∧ Aside0 (By n (relTo p n i0 0) L) ∧ Aside0 (OI wr w.heap.size (.slice (some ⟨w.heap.size + 1, 0, none⟩) n n) L) ∧ Aside0 (Below w.heap.size w wr) ∧
      Aside0 (wr.heap[w.heap.size]? = some (.cells #[.int .i64 0, .slice none 0 0] 34 (0, 0))) ∧ Aside0 (wr.heap[w.heap.size + 1 + 1]? = some (.cells #[.int .i64 (n : Int), .slice (some ⟨w.heap.size + 1, 0, none⟩) n n] 34 (0, 0)))) (fun i _ => n - (intOf i).toNat)
  case atStart => exact ⟨0, _, Nat.zero_le _, rfl, ⟨(By.zero n).congr (fun r _ => (relTo_start p n r).symm)⟩, HE0, HB0, HX4, HX5⟩
  case round =>
    clear HB0 HX4 HX5 HE0 hmk
    obtain ⟨i0, L, hi, rfl, HL, HE, HB, HX4, HX5⟩ := hrel
    by_cases hlt : i0 < n
    · go_wp2
      go_loopw [17] (fun q wr => ∃ (j : Nat) (L : List Int), j ≤ n ∧ q = .int .i64 j ∧ Aside0 (By n (relTo p n i0 j) L) ∧ Aside0 (OI wr w.heap.size (.slice (some ⟨w.heap.size + 1, 0, none⟩) n n) L) ∧ Aside0 (Below w.heap.size w wr) ∧
        Aside0 (wr.heap[w.heap.size]? = some (.cells #[.int .i64 0, .slice none 0 0] 34 (0, 0))) ∧ Aside0 (wr.heap[w.heap.size + 1 + 1]? = some (.cells #[.int .i64 (n : Int), .slice (some ⟨w.heap.size + 1, 0, none⟩) n n] 34 (0, 0)))) (fun q _ => n - (intOf q).toNat)
      case atStart => exact ⟨0, L, Nat.zero_le _, rfl, HL, HE, HB, HX4, HX5⟩
      case round =>
        clear HL HE HB HX4 HX5 L
        obtain ⟨j, L, hj, rfl, HL, HE, HB, HX4, HX5⟩ := hrel
        by_cases hjn : j < n
        · cases hb : p i0 j
          · have hc := HF.out i0 j wr hlt hjn HB.out
            rw [hb] at hc
            have Hb := Aside0.mk hb
            have HC := Aside0.mk hc
            clear hb hc
            go_wp2_with fail
            refine HC.out.mono ?_
            rintro e w1 ⟨rfl, hbw⟩
            have HB1 := Aside0.mk (below_step HB.out hbw)
            have HX6 := Aside0.mk (blk_below HX4.out hbw)
            have HX7 := Aside0.mk (blk_below HX5.out hbw)
            have HE1 := Aside0.mk (Kd.R_below HE.out hbw)
            have HL1 := Aside0.mk (HL.out.congr (fun r _ => relTo_no Hb.out r))
            clear hbw HB HX4 HX5 HE
            go_wp2
            go_roundw
            case rel => exact ⟨j + 1, L, by omega, by go_num, HL1, HE1, HB1, HX6, HX7⟩
            case measure => simp [intOf]; omega
          · have hc := HF.out i0 j wr hlt hjn HB.out
            rw [hb] at hc
            have Hb := Aside0.mk hb
            have HC := Aside0.mk hc
            clear hb hc
            go_wp2_with fail
            refine HC.out.mono ?_
            rintro e w1 ⟨rfl, hbw⟩
            have HB1 := Aside0.mk (below_step HB.out hbw)
            have HX6 := Aside0.mk (blk_below HX4.out hbw)
            have HX7 := Aside0.mk (blk_below HX5.out hbw)
            have HE1 := Aside0.mk (Kd.R_below HE.out hbw)
            have HL1 := Aside0.mk (HL.out.set (h := relTo p n i0 (j + 1)) hlt (x := bits .or .i64 (rd L i0) (2 ^ j)) (fun r _ => by rw [relTo_yes Hb.out, HL.out.at_ i0 hlt, relTo_at]))
            clear hbw HB HX4 HX5 HE
            obtain ⟨hy0, hy1⟩ := box2 HX7.out
            obtain ⟨hs1, hs2⟩ := OI_at HE1.out (i0 : Int) (by omega) (by omega)
            rw [Int.toNat_natCast] at hs1 hs2
            obtain ⟨P, hP, hP1, hP2, hP3⟩ := pow10 (n := j) (by omega)
            rw [← hP.out] at HL1
            go_wp2
            go_region
            go_wp2
            go_roundw
            case rel =>
              exact ⟨j + 1, L.set i0 (bits .or .i64 (rd L i0) P), by omega, by go_num, HL1, ⟨Kd.R_drew (by have := OI_set HE1.out (i0 : Int) (bits .or .i64 (rd L i0) P); rwa [Int.toNat_natCast] at this)⟩, ⟨below_drew1 (below_set HB1.out (by omega))⟩,
                ⟨blk_drew (blk_far HX6.out (by show w.heap.size ≠ w.heap.size + 1; omega) _)⟩, ⟨blk_drew (blk_far HX7.out (by show w.heap.size + 1 + 1 ≠ w.heap.size + 1; omega) _)⟩⟩
            case measure => simp [intOf]; omega
        · have HL1 := Aside0.mk (HL.out.congr (h := relTo p n (i0 + 1) 0) (fun r _ => by rw [show j = n by omega]; exact relTo_row p n i0 r))
          go_wp2
          go_roundw
          case rel => exact ⟨i0 + 1, L, by omega, by go_num, HL1, HE, HB, HX4, HX5⟩
          case measure => simp [intOf]; omega
    · have He := Aside0.mk (show L = relL p n from (HL.out.congr (h := fun i => setTo (p i) n) (fun r hr => by rw [relTo, if_pos (by omega)])).eq)
      obtain ⟨hy0, hy1⟩ := box2 HX5.out
      obtain ⟨hz0, hz1⟩ := box2 HX4.out
      have hf0 := blk_frozen HX4.out 0
      have hf1 := blk_frozen HX4.out 1
      go_wp2
      refine bodyPost_ret (results_cell_row rfl _ _ w.heap.size 34 #[.int .i64 (n : Int), .slice (some ⟨w.heap.size + 1, 0, none⟩) n n] (0, 0) _ rfl (put2 HX4.out) Tryd.underlying34 rfl (by kernel_rfl)) rfl ⟨_, rfl, ?_, ?_⟩
      · rw [← He.out]
        exact OI_farv (OI_farv HE.out HX4.out (by decide) _) (blk_put HX4.out 0 _ rfl) (by decide) _
      · exact below_set (below_set HB.out (Nat.le_refl _)) (Nat.le_refl _)
end Go.Proofs.YtgffgmfjoepjoaaDoor.M
