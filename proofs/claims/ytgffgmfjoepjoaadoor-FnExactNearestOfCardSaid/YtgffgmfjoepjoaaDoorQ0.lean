/- Choices from sets: the table of an order tells it. -/
import Derived.Test.YtgffgmfjoepjoaaDoorP2
set_option linter.unusedVariables false
set_option linter.unusedSimpArgs false
namespace Go.Proofs.YtgffgmfjoepjoaaDoor.M
open Go.RowKit Go.Proofs.YtgffgmfjoepjoaaDoorW.PrintWords
/-- The best elements among the first k of a set. -/
def chTo (l : List Int) (s : Int) : Nat → Int
  | 0 => 0
  | k + 1 => if bits .and .i64 (rd l (rd (bitsOf s) k)) s == 0 then bits .or .i64 (chTo l s k) (2 ^ (rd (bitsOf s) k).toNat) else chTo l s k
def ch (l : List Int) (s : Int) : Int := chTo l s (bitsOf s).length
theorem bitsOf_at {s : Int} {n : Nat} (hn : n ≤ 62) (h0 : 0 ≤ s) (h1 : s < 2 ^ n) {k : Nat} (hk : k < (bitsOf s).length) : ∃ i : Nat, rd (bitsOf s) k = i ∧ i < n ∧ has s i = true :=
  (mem_bitsOf hn h0 h1).1 (rd_mem (l := bitsOf s) (i := (k : Int)) (by omega) (by omega))
theorem chTo_spec {l : List Int} (hv : VO l) {s : Int} (h0 : 0 ≤ s) (h1 : s < 2 ^ l.length) : ∀ k, k ≤ (bitsOf s).length → 0 ≤ chTo l s k ∧ chTo l s k < 2 ^ l.length ∧
    ∀ i : Nat, has (chTo l s k) i = true ↔ (∃ q : Nat, q < k ∧ rd (bitsOf s) q = i) ∧ bits .and .i64 (rd l i) s = 0
  | 0, _ => by
    refine ⟨by simp [chTo], Int.pow_pos (by decide), fun i => ?_⟩
    rw [chTo, zero_set]
    simp
  | k + 1, hk => by
    have hn : l.length ≤ 62 := by have := hv.l10; omega
    obtain ⟨a, b, c⟩ := chTo_spec hv h0 h1 k (by omega)
    obtain ⟨j, hj, hjn, hjs⟩ := bitsOf_at hn h0 h1 (k := k) (by omega)
    rw [chTo, hj, Int.toNat_natCast]
    have hone := one_set (k := j) (n := l.length) hjn
    cases hz : (bits .and .i64 (rd l j) s == 0)
    · refine ⟨a, b, fun i => ?_⟩
      rw [if_neg (by simp), c i]
      constructor
      · rintro ⟨⟨q, hq, e⟩, h⟩; exact ⟨⟨q, by omega, e⟩, h⟩
      · rintro ⟨⟨q, hq, e⟩, h⟩
        refine ⟨⟨q, ?_, e⟩, h⟩
        rcases Nat.lt_or_ge q k with hqk | hqk
        · exact hqk
        · have : q = k := by omega
          subst this
          rw [hj] at e
          have e2 : j = i := by exact_mod_cast e
          subst e2
          rw [h] at hz
          simp at hz
    · obtain ⟨x, y, z⟩ := or_set hn a b hone.1 hone.2.1
      rw [if_pos rfl]
      refine ⟨x, y, fun i => ?_⟩
      rw [z, Bool.or_eq_true, c i, hone.2.2, decide_eq_true_eq]
      constructor
      · rintro (⟨⟨q, hq, e⟩, h⟩ | rfl)
        · exact ⟨⟨q, by omega, e⟩, h⟩
        · exact ⟨⟨k, by omega, hj⟩, by simpa using hz⟩
      · rintro ⟨⟨q, hq, e⟩, h⟩
        rcases Nat.lt_or_ge q k with hqk | hqk
        · exact .inl ⟨⟨q, hqk, e⟩, h⟩
        · have : q = k := by omega
          subst this
          rw [hj] at e
          exact .inr (by exact_mod_cast e.symm)
theorem ch_spec {l : List Int} (hv : VO l) {s : Int} (h0 : 0 ≤ s) (h1 : s < 2 ^ l.length) (i : Nat) : has (ch l s) i = true ↔ (i < l.length ∧ has s i = true) ∧ bits .and .i64 (rd l i) s = 0 := by
  have hn : l.length ≤ 62 := by have := hv.l10; omega
  rw [ch, (chTo_spec hv h0 h1 _ (Nat.le_refl _)).2.2 i]
  have : (∃ q : Nat, q < (bitsOf s).length ∧ rd (bitsOf s) q = i) ↔ (i < l.length ∧ has s i = true) := by
    constructor
    · rintro ⟨q, hq, e⟩
      obtain ⟨j, hj, h2, h3⟩ := bitsOf_at hn h0 h1 hq
      have e2 : i = j := by rw [hj] at e; exact_mod_cast e.symm
      subst e2
      exact ⟨h2, h3⟩
    · rintro ⟨h2, h3⟩
      have hm := (mem_bitsOf hn h0 h1 (j := (i : Int))).2 ⟨i, rfl, h2, h3⟩
      obtain ⟨q, hq, e⟩ := List.getElem_of_mem hm
      exact ⟨q, hq, by rw [rd, List.getD_eq_getElem?_getD, Int.toNat_natCast, List.getElem?_eq_getElem hq]; simpa using e⟩
  rw [this]
def tabTo (l : List Int) (k : Nat) : List Int := (List.range k).map fun s : Nat => ch l s
/-- The choices of an order, for all sets. -/
def tabOf (l : List Int) : List Int := tabTo l (2 ^ l.length)
theorem tabTo_succ (l : List Int) (k : Nat) : tabTo l (k + 1) = tabTo l k ++ [ch l k] := by simp [tabTo, List.range_succ]
theorem tabTo_len (l : List Int) (k : Nat) : (tabTo l k).length = k := by simp [tabTo]
/-- From the choice out of two. -/
theorem ch_two {l : List Int} (h : IsOrd l) {i j : Nat} (hi : i < l.length) (hj : j < l.length) : ∃ s : Nat, s < 2 ^ l.length ∧ (has (ch l s) i = true ↔ bet l i j = false) ∧ (∀ l' : List Int, IsOrd l' → l'.length = l.length → (has (ch l' s) i = true ↔ bet l' i j = false)) := by
  have hn : l.length ≤ 62 := by have := h.vo.l10; omega
  have h1 := one_set (k := i) (n := l.length) hi
  have h2 := one_set (k := j) (n := l.length) hj
  obtain ⟨a, b, c⟩ := or_set hn h1.1 h1.2.1 h2.1 h2.2.1
  obtain ⟨s, hs⟩ := Int.eq_ofNat_of_zero_le a
  rw [hs] at b c
  have hall : ∀ l' : List Int, IsOrd l' → l'.length = l.length → (has (ch l' s) i = true ↔ bet l' i j = false) := by
    intro l' h' he
    have hr := h'.vo.rd (i := i) (by omega)
    rw [ch_spec h'.vo (by omega) (by rw [he]; exact b) i, he]
    have hs2 := and_set hn (x := rd l' i) (y := (s : Int)) hr.1 (by rw [← he]; exact hr.2.1) (by omega) b
    rw [set_zero hs2.1 hs2.2.1]
    constructor
    · rintro ⟨_, h3⟩
      have := h3 j hj
      rw [hs2.2.2, c, h1.2.2, h2.2.2] at this
      simpa [bet] using this
    · intro h3
      refine ⟨⟨hi, by rw [c, h1.2.2]; simp⟩, fun x hx => ?_⟩
      rw [hs2.2.2, c, h1.2.2, h2.2.2]
      by_cases e1 : x = i
      · subst e1
        have := h'.irr x (by omega)
        rw [bet] at this
        simp [this]
      · by_cases e2 : x = j
        · subst e2
          rw [bet] at h3
          simp [h3]
        · simp [e1, e2]
  exact ⟨s, by exact_mod_cast b, hall l h rfl, hall⟩
theorem tab_inj {l l' : List Int} (h : IsOrd l) (h' : IsOrd l') (he : l'.length = l.length) (ht : tabOf l = tabOf l') : l = l' := by
  have hs : ∀ s : Nat, s < 2 ^ l.length → ch l s = ch l' s := fun s hs => by
    have e := congrArg (fun t => t[s]?) ht
    simpa [tabOf, tabTo, he, hs] using e
  have hb : ∀ i j, i < l.length → j < l.length → bet l i j = bet l' i j := fun i j hi hj => by
    obtain ⟨s, h1, h2, h3⟩ := ch_two h hi hj
    have h4 := h3 l' h' he
    rw [hs s h1] at h2
    rw [h2] at h4
    cases hx : bet l i j <;> cases hy : bet l' i j <;> simp [hx, hy] at h4 ⊢
  refine List.ext_getElem he.symm fun i h1 h2 => ?_
  have hr := h.vo.rd (i := i) h1
  have hr' := h'.vo.rd (i := i) h2
  have e : rd l i = rd l' i := set_ext (n := l.length) hr.1 hr.2.1 hr'.1 (by rw [← he]; exact hr'.2.1) (fun j hj => by have := hb i j h1 hj; simpa [bet] using this)
  simpa [rd, List.getD_eq_getElem?_getD, h1, h2] using e
theorem ords_pre {n : Nat} {kind : Int} : ∀ d xs, ∀ x ∈ ords n kind d xs, x.1 = n ∧ ∃ ys, x.2 = xs ++ ys
  | 0, xs, x, h => by
    rw [ords] at h
    split at h
    · simp at h; rw [h]; exact ⟨rfl, [], by simp⟩
    · simp at h
  | d + 1, xs, x, h => by
    rw [ords, List.mem_flatMap] at h
    obtain ⟨s, _, h⟩ := h
    split at h
    · simp at h
    · obtain ⟨h1, ys, h2⟩ := ords_pre d _ x h
      exact ⟨h1, _, by rw [h2, List.append_assoc]⟩
theorem ords_nodup {n : Nat} {kind : Int} : ∀ d xs, (ords n kind d xs).Pairwise (fun x y => x.2 ≠ y.2)
  | 0, xs => by
    rw [ords]
    split
    · simp
    · simp
  | d + 1, xs => by
    rw [ords, List.pairwise_flatMap]
    refine ⟨fun s _ => ?_, ?_⟩
    · split
      · simp
      · exact ords_nodup d _
    · refine (List.nodup_range (n := 2 ^ n)).imp ?_
      intro s t hst x hx y hy e
      split at hx
      · simp at hx
      · split at hy
        · simp at hy
        · obtain ⟨_, ys, h1⟩ := ords_pre d _ x hx
          obtain ⟨_, zs, h2⟩ := ords_pre d _ y hy
          rw [h1, h2, List.append_assoc, List.append_assoc] at e
          have := List.append_cancel_left e
          simp at this
          exact hst (by exact_mod_cast this.1)
theorem kind_ord {s : Int} {l : List Int} {kind : Int} (h : kindB s l kind = true) : ordB s l = true := by
  simp only [kindB, semiB, weakB, intB] at h
  split at h
  · simp only [Bool.and_eq_true] at h; exact h.1
  · split at h
    · simp only [Bool.and_eq_true] at h; exact h.1.1
    · split at h
      · simp only [Bool.and_eq_true] at h; exact h.1
      · exact h
theorem ords_ord {n : Nat} {kind : Int} : ∀ d xs, ∀ x ∈ ords n kind d xs, IsOrd x.2 ∧ x.2.length = n
  | 0, xs, x, h => by
    rw [ords] at h
    split at h
    · rename_i hk
      simp at h; rw [h]
      obtain ⟨h1, h2⟩ := ord_IsOrd (kind_ord hk)
      exact ⟨h2, by exact_mod_cast h1.symm⟩
    · simp at h
  | d + 1, xs, x, h => by
    rw [ords, List.mem_flatMap] at h
    obtain ⟨s, _, h⟩ := h
    split at h
    · simp at h
    · exact ords_ord d _ x h
/-- The tables of two orders of the list are unlike. -/
theorem tab_ne {n : Nat} {kind : Int} {j k : Nat} (hj : j < k) (hk : k < (ords n kind n []).length) : tabOf (rdO (ords n kind n []) j).2 ≠ tabOf (rdO (ords n kind n []) k).2 := by
  have hr : ∀ q, q < (ords n kind n []).length → ∃ h : q < (ords n kind n []).length, rdO (ords n kind n []) q = (ords n kind n [])[q] := fun q hq => ⟨hq, by simp [rdO, hq]⟩
  obtain ⟨h1, e1⟩ := hr j (by omega)
  obtain ⟨h2, e2⟩ := hr k hk
  rw [e1, e2]
  have o1 := ords_ord n [] _ (List.getElem_mem h1)
  have o2 := ords_ord n [] _ (List.getElem_mem h2)
  intro e
  have := tab_inj o1.1 o2.1 (by rw [o1.2, o2.2]) e
  exact List.pairwise_iff_getElem.1 (ords_nodup n []) j k h1 h2 hj this
end Go.Proofs.YtgffgmfjoepjoaaDoor.M
