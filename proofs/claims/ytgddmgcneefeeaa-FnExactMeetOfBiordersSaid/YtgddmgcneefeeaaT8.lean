/- Tables: the program's freeOrder. -/
import Derived.Test.YtgddmgcneefeeaaT7
import Derived.Deep.RegionLaw
set_option linter.unusedVariables false
set_option linter.unusedSimpArgs false
namespace Go.Proofs.Ytgddmgcneefeeaa.M
open Go.RowKit Go.Proofs.YtgddmgcneefeeaaW.PrintWords
structure BefP (n : Nat) (f : Nat → Nat → Bool) (bef : List Int) : Prop where
  len : bef.length = n
  lo : ∀ i : Nat, i < n → 0 ≤ rd bef i ∧ rd bef i < 2 ^ 6
  is : ∀ i : Nat, i < n → ∀ s : Nat, has (rd bef i) s = f i s
theorem rd_set (l : List Int) (i j : Nat) (x : Int) (h : i < l.length) : rd (l.set i x) j = if j = i then x else rd l j := by
  unfold rd
  rw [List.getD_eq_getElem?_getD, List.getD_eq_getElem?_getD, List.getElem?_set, Int.toNat_natCast]
  by_cases e : j = i
  · subst e; simp [h]
  · rw [if_neg (fun h => e h.symm), if_neg e]
theorem BefP.set {n : Nat} {f g : Nat → Nat → Bool} {bef : List Int} (h : BefP n f bef) {i p : Nat} (hi : i < n) (hp : p < 6) (hg : ∀ j s, g j s = (f j s || (decide (j = i) && decide (s = p)))) :
    BefP n g (bef.set i (bits .or .i64 (rd bef i) (2 ^ p))) := by
  obtain ⟨a, b, c⟩ := or_set (n := 6) (by decide) (h.lo i hi).1 (h.lo i hi).2 (one_set hp).1 (one_set hp).2.1
  refine ⟨by rw [List.length_set, h.len], fun j hj => ?_, fun j hj s => ?_⟩
  · rw [rd_set _ _ _ _ (by rw [h.len]; exact hi)]
    split
    · exact ⟨a, b⟩
    · exact h.lo j hj
  · rw [rd_set _ _ _ _ (by rw [h.len]; exact hi), hg]
    split
    · rename_i e; subst e; rw [c, (one_set hp).2.2, h.is _ hj]; simp
    · rename_i e; rw [h.is j hj]; simp [e]
theorem BefP.zero (n : Nat) : BefP n (fun _ _ => false) (List.replicate n 0) := by
  have hr : ∀ i : Nat, i < n → rd (List.replicate n 0) i = 0 := fun i hi => by simp [rd, hi]
  exact ⟨by simp, fun i hi => by rw [hr i hi]; decide, fun i hi s => by rw [hr i hi]; exact zero_set s⟩
theorem BefP.congr {n : Nat} {f g : Nat → Nat → Bool} {bef : List Int} (h : BefP n f bef) (hg : ∀ i s, i < n → g i s = f i s) : BefP n g bef := ⟨h.len, h.lo, fun i hi s => by rw [h.is i hi, hg i s hi]⟩
def befF (m : List Int) (C : Int) (cells : List Int) (i s : Nat) : Bool := cells.any fun x => (x / C == (s : Int)) && has (rd m i) (x % C)
theorem befF_snoc (m : List Int) (C : Int) (cells : List Int) (x : Int) (i s : Nat) : befF m C (cells ++ [x]) i s = (befF m C cells i s || ((x / C == (s : Int)) && has (rd m i) (x % C))) := by simp [befF]
structure SetP (out : List Int) (set : Int) : Prop where
  lo : 0 ≤ set
  hi : set < 2 ^ 6
  is : ∀ s : Nat, has set s = isIn out s
theorem SetP.nil : SetP [] 0 := ⟨by decide, by decide, fun s => zero_set s⟩
theorem SetP.snoc {out : List Int} {set : Int} (h : SetP out set) {r : Nat} (hr : r < 6) : SetP (out ++ [(r : Int)]) (bits .or .i64 set (2 ^ r)) := by
  obtain ⟨a, b, c⟩ := or_set (n := 6) (by decide) h.lo h.hi (one_set hr).1 (one_set hr).2.1
  refine ⟨a, b, fun s => ?_⟩
  rw [c, h.is, (one_set hr).2.2, Bool.eq_iff_iff]
  simp [isIn]
  constructor <;> (rintro (e | e); exact .inl e; exact .inr (by omega))
/-- Nothing of what must stand before row r is missing, exactly if r is ready. -/
theorem ready_iff {m cells out : List Int} {C : Int} {bef : List Int} {set : Int} (hb : BefP m.length (befF m C cells) bef) (hs : SetP out set) (hc : ∀ x ∈ cells, 0 ≤ x / C ∧ x / C ≤ 5) {r : Nat} (hr : r < m.length) :
    (bits .andNot .i64 (rd bef r) set = 0) ↔ ready m C cells out r = true := by
  obtain ⟨a, b, c⟩ := not_set (n := 6) (by decide) (hb.lo r hr).1 (hb.lo r hr).2 hs.lo hs.hi
  rw [set_zero a b]
  simp only [c, hb.is r hr, hs.is, ready, List.all_eq_true, befF]
  constructor
  · intro h x hx
    obtain ⟨h0, h1⟩ := hc x hx
    have h2 := h (x / C).toNat (by omega)
    rw [Int.toNat_of_nonneg h0] at h2
    cases hi : isIn out (x / C)
    · rw [hi, Bool.not_false, Bool.and_true, List.any_eq_false] at h2
      have := h2 x hx
      simp at this
      simp [this]
    · rfl
  · intro h s hs6
    cases hi : isIn out (s : Int)
    · rw [Bool.not_false, Bool.and_true, List.any_eq_false]
      intro x hx hh
      rw [Bool.and_eq_true, beq_iff_eq] at hh
      have := h x hx
      rw [hh.1, hi, hh.2] at this
      cases this
    · simp
theorem nx_find (p : Int → Bool) : ∀ (d r k : Nat), (∀ i : Nat, r ≤ i → i < k → p i = false) → r ≤ k → k < r + d → p k = true → nx p d r = k
  | 0, r, k, _, h1, h2, _ => by omega
  | d + 1, r, k, h, h1, h2, h3 => by
    rw [nx_step]
    rcases Nat.lt_or_ge r k with h4 | h4
    · rw [h r (Nat.le_refl _) h4]
      exact nx_find p d (r + 1) k (fun i h5 h6 => h i (by omega) h6) h4 (by omega) h3
    · rw [show r = k by omega, if_pos h3]
theorem nx_none (p : Int → Bool) : ∀ (d r : Nat), (∀ i : Nat, r ≤ i → i < r + d → p i = false) → nx p d r = -1
  | 0, r, _ => rfl
  | d + 1, r, h => by
    rw [nx_step, h r (Nat.le_refl _) (by omega)]
    exact nx_none p d (r + 1) (fun i h1 h2 => h i (by omega) (by omega))
theorem step_no {a z : Bool} {i q : Nat} (h : i = q → z = false) : (a || (decide (i < q + 1) && z)) = (a || (decide (i < q) && z)) := by
  by_cases e : i = q
  · rw [h e]; simp
  · congr 2
    rw [decide_eq_decide]
    omega
theorem step_yes {a z : Bool} {i q s : Nat} {y : Int} (hy : 0 ≤ y) (h : i = q → z = (y == (s : Int))) : (a || (decide (i < q + 1) && z)) = ((a || (decide (i < q) && z)) || (decide (i = q) && decide (s = y.toNat))) := by
  by_cases e : i = q
  · have h1 : (y == (s : Int)) = decide (s = y.toNat) := by rw [Bool.eq_iff_iff]; simp; omega
    rw [h e, h1, e]
    simp
  · have h1 : decide (i < q + 1) = decide (i < q) := by rw [decide_eq_decide]; omega
    rw [h1]
    simp [e]
/-- A slice that is nil, or not nil and of the call's own. -/
def OptI (w : World) (b : Nat) (v : Value) : Option (List Int) → Prop
  | none => v = .slice none 0 0
  | some xs => OI w b v xs ∧ ∃ ad n c, v = .slice (some ad) n c
set_option maxHeartbeats 1600000 in
set_option maxRecDepth 100000 in
theorem freeOrder_c (c : Nat) (m cells : List Int) (hv : VT c m) (A A1 : Option Addr) (k k1 : Nat) (w : World) (hr : I.C w A m.length m) (hr1 : I.C w A1 cells.length cells)
    (hcell : ∀ x ∈ cells, 0 ≤ x ∧ x ≤ 35 ∧ x / c ≤ 5) (hcl : cells.length ≤ 36) :
    Calls Try.prog 53 #[.agg #[.int .i64 (m.length : Int), .int .i64 (c : Int), .slice A m.length k], .slice A1 cells.length k1] w fun e w' =>
      ∃ v, e = .returned v ∧ OptI w' w.heap.size v (ord m c cells) ∧ Below w.heap.size w w' := by
  have HR := Aside0.mk hr
  have HR1 := Aside0.mk hr1
  have HV := Aside0.mk hv
  have hm6 := hv.l6
  have hC := hv.c1
  have hC6 := hv.c6
  have hC1 : 1 ≤ (c : Int) := by omega
  have hC7 : (c : Int) ≤ 6 := by omega
  have hcz : ¬ c = 0 := by omega
  have hcz1 : ((c : Int) == 0) = false := by simp; omega
  have hmk := print_make (P := Try.prog) 22 3 .i64 8 Try.underlying22 infoI (by omega) m.length (by omega)
  clear hr hr1 hv
  have hX := Aside0.mk (blk_new w (.cells #[.int .i64 (m.length : Int), .int .i64 (c : Int), .slice A m.length k] 29))
  have hB := Aside0.mk (below_alloc (Below.refl w.heap.size w) (.cells #[.int .i64 (m.length : Int), .int .i64 (c : Int), .slice A m.length k] 29))
  go_enter Try.func53, Try.ntmps53
  go_wp2
  have hE : Aside0 (OI ((w.alloc (.cells #[.int .i64 (m.length : Int), .int .i64 (c : Int), .slice A m.length k] 29)).alloc (.cells (madeCells #[.int .i64 0] m.length) 3)) w.heap.size (.slice (some ⟨w.heap.size + 1, 0, none⟩) m.length m.length) (List.replicate m.length 0)) := ⟨OI_made (by simp) (by simp) (by omega)⟩
  go_loopw [17] (fun i wr => ∃ (j : Nat) (bef : List Int), j ≤ cells.length ∧ i = .int .i64 j ∧ Aside0 (BefP m.length (befF m c (cells.take j)) bef) ∧ Aside0 (OI wr w.heap.size (.slice (some ⟨w.heap.size + 1, 0, none⟩) m.length m.length) bef) ∧ Aside0 (Below w.heap.size w wr) ∧
      Aside0 (wr.heap[w.heap.size]? = some (.cells #[.int .i64 (m.length : Int), .int .i64 (c : Int), .slice A m.length k] 29 (0, 0)))) (fun i _ => cells.length - (intOf i).toNat)
  case atStart => exact ⟨0, _, Nat.zero_le _, rfl, ⟨(BefP.zero m.length).congr (fun i s _ => rfl)⟩, hE, ⟨below_alloc hB.out _⟩, ⟨blk_alloc hX.out _⟩⟩
  case round =>
    clear hE hX hB hmk
    obtain ⟨j, bef, hj, rfl, HP, HE, HB, HX⟩ := hrel
    obtain ⟨hx0, hx1, hx2⟩ := box3 HX.out
    by_cases hj1 : j < cells.length
    · obtain ⟨ad, rfl, hc⟩ := Kd.at_int (Kd.C_below HR1.out HB.out) j (by omega) (by omega)
      rw [Int.toNat_natCast] at hc
      obtain ⟨hxp, hxl, hxd⟩ := hcell (rd cells j) (rd_mem (by omega) (by omega))
      obtain ⟨x, hxe⟩ : ∃ x, x = rd cells j := ⟨_, rfl⟩
      rw [← hxe] at hc hxp hxl hxd
      have hsn : Aside0 (∀ i s, befF m c (cells.take (j + 1)) i s = (befF m c (cells.take j) i s || ((x / (c : Int) == (s : Int)) && has (rd m i) (x % c)))) := ⟨fun i s => by rw [take_snoc hj1, befF_snoc, ← hxe]⟩
      clear hxe
      have hd0 : 0 ≤ x / (c : Int) := Int.ediv_nonneg hxp (by omega)
      go_wp2
      go_loopw [23] (fun i wr => ∃ (q : Nat) (bef : List Int), q ≤ m.length ∧ i = .int .i64 q ∧ Aside0 (BefP m.length (fun i s => befF m c (cells.take j) i s || (decide (i < q) && ((x / (c : Int) == (s : Int)) && has (rd m i) (x % c)))) bef) ∧ Aside0 (OI wr w.heap.size (.slice (some ⟨w.heap.size + 1, 0, none⟩) m.length m.length) bef) ∧ Aside0 (Below w.heap.size w wr) ∧
        Aside0 (wr.heap[w.heap.size]? = some (.cells #[.int .i64 (m.length : Int), .int .i64 (c : Int), .slice A m.length k] 29 (0, 0)))) (fun i _ => m.length - (intOf i).toNat)
      case atStart => exact ⟨0, bef, Nat.zero_le _, rfl, ⟨HP.out.congr (fun i s _ => by simp)⟩, HE, HB, HX⟩
      case round =>
        clear HP HE HB HX hx0 hx1 hx2 hc bef
        obtain ⟨q, bef, hq, rfl, HP, HE, HB, HX⟩ := hrel
        obtain ⟨hx0, hx1, hx2⟩ := box3 HX.out
        by_cases hq1 : q < m.length
        · have hxc : x % (c : Int) ≤ 63 := by have := Int.emod_lt_of_pos x (show 0 < (c : Int) by omega); omega
          have hxc0 : 0 ≤ x % (c : Int) := Int.emod_nonneg _ (by omega)
          have htm : x.tmod (c : Int) = x % c := Int.tmod_eq_emod_of_nonneg hxp
          cases hb : has (rd m q) (x % c)
          · go_wp2
            go_region_held3 (fun w' => w'.cell? ⟨w.heap.size, 0, none⟩ = some (.int .i64 (m.length : Int)) ∧ w'.cell? ⟨w.heap.size, 1, none⟩ = some (.int .i64 (c : Int)) ∧ w'.cell? ⟨w.heap.size, 2, none⟩ = some (.slice A m.length k)) (first | exact ⟨hx0, hx1, hx2⟩ | (exact box3 (blk_below (blk_drew HX.out) ‹_›)))
              (first | (go_at_call 63; with_reducible refine (marked_b (b := false) HV.out hb A k _ (Kd.C_below HR.out (below_drew1 HB.out)) (by omega) (by omega) hxc0 hxc).mono ?_; rintro e w1 ⟨rfl, hbw⟩))
            have HB1 := Aside0.mk (below_step (below_drew1 HB.out) hbw)
            have HX1 := Aside0.mk (blk_below (blk_drew HX.out) hbw)
            have HE1 := Aside0.mk (Kd.R_below (Kd.R_drew HE.out) hbw)
            go_wp2
            go_roundw
            case rel => exact ⟨q + 1, bef, by omega, by go_num, ⟨HP.out.congr (fun i s hi => step_no (fun e => by rw [e, hb, Bool.and_false]))⟩, HE1, HB1, HX1⟩
            case measure => simp [intOf]; omega
          · go_wp2
            go_region_held3 (fun w' => w'.cell? ⟨w.heap.size, 0, none⟩ = some (.int .i64 (m.length : Int)) ∧ w'.cell? ⟨w.heap.size, 1, none⟩ = some (.int .i64 (c : Int)) ∧ w'.cell? ⟨w.heap.size, 2, none⟩ = some (.slice A m.length k)) (first | exact ⟨hx0, hx1, hx2⟩ | (exact box3 (blk_below (blk_drew HX.out) ‹_›)))
              (first | (go_at_call 63; with_reducible refine (marked_b (b := true) HV.out hb A k _ (Kd.C_below HR.out (below_drew1 HB.out)) (by omega) (by omega) hxc0 hxc).mono ?_; rintro e w1 ⟨rfl, hbw⟩))
            have HB1 := Aside0.mk (below_step (below_drew1 HB.out) hbw)
            have HX1 := Aside0.mk (blk_below (blk_drew HX.out) hbw)
            have HE1 := Aside0.mk (Kd.R_below (Kd.R_drew HE.out) hbw)
            clear HE HB HX hx0 hx1 hx2 hbw
            obtain ⟨hx0, hx1, hx2⟩ := box3 HX1.out
            obtain ⟨hs1, hs2⟩ := OI_at HE1.out (q : Int) (by omega) (by omega)
            rw [Int.toNat_natCast] at hs1 hs2
            obtain ⟨P, hP, hP1, hP2⟩ : ∃ P : Int, Aside0 (P = 2 ^ (x / (c : Int)).toNat) ∧ (1 : Int) * 2 ^ (x / (c : Int)).toNat = P ∧ 1 ≤ P ∧ P ≤ 64 := by
              have h5 : (x / (c : Int)).toNat ≤ 5 := by omega
              have h6 : (2 : Int) ^ (x / (c : Int)).toNat ≤ 2 ^ 6 := by exact_mod_cast Nat.pow_le_pow_right (by omega) (show (x / (c : Int)).toNat ≤ 6 by omega)
              have h7 : 0 < (2 : Int) ^ (x / (c : Int)).toNat := Int.pow_pos (by omega)
              exact ⟨_, ⟨rfl⟩, by simp, by omega, by omega⟩
            go_wp2
            go_region
            go_wp2
            go_roundw
            case rel =>
              exact ⟨q + 1, bef.set q (bits .or .i64 (rd bef q) P), by omega, by go_num, ⟨by rw [hP.out]; exact HP.out.set hq1 (by omega) (fun j s => step_yes hd0 (fun e => by rw [e, hb, Bool.and_true]))⟩,
                ⟨Kd.R_drew (by have := OI_set HE1.out (q : Int) (bits .or .i64 (rd bef q) P); rwa [Int.toNat_natCast] at this)⟩, ⟨below_drew1 (below_set HB1.out (by omega))⟩, ⟨blk_drew (blk_far HX1.out (by show w.heap.size ≠ w.heap.size + 1; omega) _)⟩⟩
            case measure => simp [intOf]; omega
        · go_wp2
          go_roundw
          case rel => exact ⟨j + 1, bef, by omega, by go_num, ⟨HP.out.congr (fun i s hi => by rw [hsn.out]; simp [show i < q by omega])⟩, HE, HB, HX⟩
          case measure => simp [intOf]; omega
    · have HP1 := Aside0.mk (show BefP m.length (befF m c cells) bef by have := HP.out; rwa [List.take_of_length_le (by omega)] at this)
      have hge : w.heap.size + 2 ≤ wr.heap.size := by
        have := HV.out.l1
        obtain ⟨g, e, _, h⟩ := OI_block HE.out (by rw [HP.out.len]; omega)
        injection e with e
        injection e with e
        omega
      have hE0 := Aside0.mk (OI_lit0 wr (w.heap.size + 2) hge)
      go_wp2
      go_loopw [9, 10] (fun v s wr => ∃ (out : List Int) (set : Int), out.length ≤ m.length ∧ s = .int .i64 set ∧ Aside0 (ordTo m c cells out.length = some out) ∧ Aside0 (SetP out set) ∧ Aside0 (OI wr (w.heap.size + 2) v out) ∧ w.heap.size + 2 ≤ wr.heap.size ∧ Aside0 (∃ ad n c, v = .slice (some ad) n c) ∧
        Aside0 (OI wr w.heap.size (.slice (some ⟨w.heap.size + 1, 0, none⟩) m.length m.length) bef) ∧ Aside0 (Below w.heap.size w wr) ∧
        Aside0 (wr.heap[w.heap.size]? = some (.cells #[.int .i64 (m.length : Int), .int .i64 (c : Int), .slice A m.length k] 29 (0, 0)))) (fun v _ _ => m.length - lenOf v)
      case atStart => exact ⟨[], 0, by simp, rfl, ⟨rfl⟩, ⟨SetP.nil⟩, hE0, (by show w.heap.size + 2 ≤ (wr.heap.push _).size; rw [Array.size_push]; omega), ⟨⟨_, _, _, rfl⟩⟩, ⟨Kd.R_alloc HE.out _⟩, ⟨below_alloc HB.out _⟩, ⟨blk_alloc HX.out _⟩⟩
      case round =>
        clear hE0 hge HE HB HX HP hx0 hx1 hx2
        obtain ⟨out, set, hol, rfl, HO, HS, HV9, hge, HN, HE, HB, HX⟩ := hrel
        obtain ⟨A9, c9, rfl, _⟩ := OI_shape HV9.out
        obtain ⟨hx0, hx1, hx2⟩ := box3 HX.out
        by_cases hlt : out.length < m.length
        · go_wp2
          go_loop [11] (fun rr => ∃ r : Nat, r ≤ m.length ∧ rr = .int .i64 r ∧ Aside0 (∀ i : Nat, i < r → okR m c cells out i = false)) (fun r => m.length - (intOf r).toNat)
          case atStart => exact ⟨0, Nat.zero_le _, rfl, ⟨fun i hi => by omega⟩⟩
          case round =>
            obtain ⟨r, hr, rfl, HF⟩ := hrel
            by_cases hr1 : r < m.length
            · have hsd := div_le_self HS.out.lo r
              have hset := HS.out.hi
              have hX := and1 (y := set / 2 ^ r) hsd.1 (by omega)
              have his := HS.out.is r
              rw [has, Int.toNat_natCast] at his
              clear hsd hset
              obtain ⟨hs1, hs2⟩ := OI_at HE.out (r : Int) (by omega) (by omega)
              rw [Int.toNat_natCast] at hs1 hs2
              cases hb : isIn out r
              · rw [hb] at his
                have hri := ready_iff HP1.out HS.out (fun x hx => ⟨Int.ediv_nonneg (hcell x hx).1 (by omega), (hcell x hx).2.2⟩) hr1
                by_cases hy : bits .andNot .i64 (rd bef r) set = 0
                · have hok : Aside0 (okR m c cells out r = true) := ⟨by rw [okR, hb, hri.1 hy]; rfl⟩
                  have hy1 : (bits .andNot .i64 (rd bef r) set != 0) = false := by simp [hy]
                  have hnx : Aside0 (nx (okR m c cells out) m.length 0 = r) := ⟨nx_find _ _ _ _ (fun i _ h => HF.out i h) (Nat.zero_le _) (by omega) hok.out⟩
                  obtain ⟨P, hP, hP1, hP2⟩ : ∃ P : Int, Aside0 (P = 2 ^ r) ∧ (1 : Int) * 2 ^ r = P ∧ 1 ≤ P ∧ P ≤ 64 := by
                    have h6 : (2 : Int) ^ r ≤ 2 ^ 6 := by exact_mod_cast Nat.pow_le_pow_right (by omega) (show r ≤ 6 by omega)
                    have h7 : 0 < (2 : Int) ^ r := Int.pow_pos (by omega)
                    exact ⟨_, ⟨rfl⟩, by simp, by omega, by omega⟩
                  have hPw : IntKind.i64.wrap P = P := by rw [IntKind.wrap_i64]; omega
                  have hne : ((r : Int) == (m.length : Int)) = false := by simp; omega
                  clear hri hy
                  go_wp2
                  go_region_law (refine appI_step (.tmp 78) (.tmp 80) (by rfl) rfl (.slice A9 out.length c9) out (r : Int) rfl rfl (Kd.R_drew HV9.out) (below_drew1 (Below.refl _ wr)) hge (by omega) ?_; intro v1 w1 ho hb hg; obtain ⟨ad7, c7, rfl, ho⟩ := OI_snoc ho)
                  go_wp2
                  go_roundw
                  case rel =>
                    repeat apply Exists.intro
                    exact ⟨⟨out ++ [(r : Int)], bits .or .i64 set P, by simp; omega, rfl, ⟨by rw [List.length_append, List.length_singleton, ordTo, HO.out, Option.bind_some, hnx.out, if_neg (by omega)]⟩, ⟨by rw [hP.out]; exact HS.out.snoc (by omega)⟩, ⟨ho⟩, Nat.le_trans hge hb.size, ⟨⟨_, _, _, rfl⟩⟩,
                      ⟨OI_low HE.out hb (by omega)⟩, ⟨below_weaken HB.out (by omega) hb⟩, ⟨blk_low HX.out hb (by omega)⟩⟩, rfl⟩
                  case measure => show m.length - (out.length + 1) < m.length - out.length; omega
                · have hnok : Aside0 (okR m c cells out r = false) := ⟨by rw [okR]; cases h : ready m c cells out r; simp; exact absurd (hri.2 h) hy⟩
                  have hy1 : (bits .andNot .i64 (rd bef r) set != 0) = true := by simp [hy]
                  clear hri hy
                  go_wp2
                  go_round
                  case rel => exact ⟨r + 1, by omega, by go_num, ⟨fun i hi => by rcases Nat.lt_or_ge i r with h | h; exact HF.out i h; rw [show i = r by omega]; exact hnok.out⟩⟩
                  case measure => simp [intOf]; omega
              · rw [hb] at his
                have hnok : Aside0 (okR m c cells out r = false) := ⟨by rw [okR, hb]; rfl⟩
                go_wp2
                go_round
                case rel => exact ⟨r + 1, by omega, by go_num, ⟨fun i hi => by rcases Nat.lt_or_ge i r with h | h; exact HF.out i h; rw [show i = r by omega]; exact hnok.out⟩⟩
                case measure => simp [intOf]; omega
            · have hre : r = m.length := by omega
              have hnone : Aside0 (ord m c cells = none) := ⟨ordTo_none (k := out.length + 1) (by rw [ordTo, HO.out]; simp [nx_none (okR m c cells out) m.length 0 (fun i _ h => HF.out i (by omega))]) _ (by omega)⟩
              have hne : ((r : Int) == (m.length : Int)) = true := by simp; omega
              clear hre
              go_wp2
              go_ret
              exact ⟨_, rfl, by rw [hnone.out]; rfl, HB.out⟩
        · have hs : Aside0 (ord m c cells = some out) := ⟨by rw [ord, show m.length = out.length by omega]; exact HO.out⟩
          go_wp2
          go_ret
          exact ⟨_, rfl, by rw [hs.out]; exact ⟨Kd.R_lower HV9.out (by omega), HN.out⟩, HB.out⟩
end Go.Proofs.Ytgddmgcneefeeaa.M
