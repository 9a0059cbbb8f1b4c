/- Tables: splitting the empty cells into parts; the law of the search, and the copies it makes. -/
import Derived.Test.YtgddmgcneefeeaaT8
set_option linter.unusedVariables false
set_option linter.unusedSimpArgs false
namespace Go.Proofs.Ytgddmgcneefeeaa.M
open Go.RowKit Go.Proofs.YtgddmgcneefeeaaW.PrintWords
theorem eqn_some (w : World) (ad : Addr) (n c : Nat) : (binOp .eql 22 (.slice (some ad) n c) (.slice none 0 0)).run Try.prog w = .ok (.bool false) w := Lib.run_eql_slice_nil w _ 3 (some ad) n c 0 0 Try.underlying22
theorem eqn_none (w : World) : (binOp .eql 22 (.slice none 0 0) (.slice none 0 0)).run Try.prog w = .ok (.bool true) w := Lib.run_eql_slice_nil w _ 3 none 0 0 0 0 Try.underlying22
theorem nen_some (w : World) (ad : Addr) (n c : Nat) : (binOp .neq 22 (.slice (some ad) n c) (.slice none 0 0)).run Try.prog w = .ok (.bool true) w := run_neq_slice_nil_any w _ 3 (some ad) n c 0 0 Try.underlying22
theorem nen_none (w : World) : (binOp .neq 22 (.slice none 0 0) (.slice none 0 0)).run Try.prog w = .ok (.bool false) w := run_neq_slice_nil_any w _ 3 none 0 0 0 0 Try.underlying22
def okPart (m : List Int) (C : Int) (cells xs : List Int) (g : Int) : Bool := (ord m C (part cells xs g)).isSome
def scan {α : Type} (f : Nat → Option α) : Nat → Nat → Option α
  | 0, _ => none
  | d + 1, g => match f g with | some o => some o | none => scan f d (g + 1)
theorem scan_none {α : Type} {f : Nat → Option α} : ∀ d g, (∀ i, g ≤ i → i < g + d → f i = none) → scan f d g = none
  | 0, _, _ => rfl
  | d + 1, g, h => by
    rw [scan, h g (Nat.le_refl _) (by omega)]
    exact scan_none d (g + 1) (fun i h1 h2 => h i (by omega) (by omega))
theorem scan_some {α : Type} {f : Nat → Option α} {o : α} : ∀ d g k, (∀ i, g ≤ i → i < k → f i = none) → g ≤ k → k < g + d → f k = some o → scan f d g = some o
  | 0, g, k, _, h1, h2, _ => by omega
  | d + 1, g, k, h, h1, h2, h3 => by
    rw [scan]
    rcases Nat.lt_or_ge g k with h4 | h4
    · rw [h g (Nat.le_refl _) h4]
      exact scan_some d (g + 1) k (fun i h5 h6 => h i (by omega) h6) h4 (by omega) h3
    · rw [show g = k by omega, h3]
theorem scan_eq {α : Type} {f : Nat → Option α} : ∀ d g, (scan f d g = none ∧ ∀ i, g ≤ i → i < g + d → f i = none) ∨ ∃ k o, g ≤ k ∧ k < g + d ∧ f k = some o ∧ scan f d g = some o
  | 0, g => .inl ⟨rfl, fun i _ _ => by omega⟩
  | d + 1, g => by
    cases h : f g with
    | some o => exact .inr ⟨g, o, Nat.le_refl _, by omega, h, by rw [scan, h]⟩
    | none =>
      rcases scan_eq (f := f) d (g + 1) with ⟨h1, h2⟩ | ⟨k, o, h1, h2, h3, h4⟩
      · refine .inl ⟨by rw [scan, h]; exact h1, fun i h3 h4 => ?_⟩
        rcases Nat.lt_or_ge g i with h5 | h5
        · exact h2 i h5 (by omega)
        · rw [show i = g by omega]; exact h
      · exact .inr ⟨k, o, by omega, by omega, h3, by rw [scan, h]; exact h4⟩
theorem scan_congr {α : Type} {f f' : Nat → Option α} : ∀ d g, (∀ i, g ≤ i → i < g + d → f i = f' i) → scan f d g = scan f' d g
  | 0, _, _ => rfl
  | d + 1, g, h => by rw [scan, scan, h g (Nat.le_refl _) (by omega), scan_congr d (g + 1) (fun i h1 h2 => h i (by omega) (by omega))]
/-- The program's search: the part that grew is looked at. -/
def findF (m : List Int) (C : Int) (cells : List Int) (many : Nat) : Nat → List Int → Option (List Int)
  | 0, xs => some xs
  | d + 1, xs => scan (fun g => if okPart m C cells (xs ++ [(g : Int)]) g then findF m C cells many d (xs ++ [(g : Int)]) else none) many 0
/-- The reading's search: every part is looked at. -/
def findS (m : List Int) (C : Int) (cells : List Int) (many : Nat) : Nat → List Int → Option (List Int)
  | 0, xs => if (List.range many).all (fun g => okPart m C cells xs g) then some xs else none
  | d + 1, xs => if (List.range many).all (fun g => okPart m C cells xs g) then scan (fun g => findS m C cells many d (xs ++ [(g : Int)])) many 0 else none
theorem rd_app (xs : List Int) (y : Int) (i : Nat) (h : i < xs.length) : rd (xs ++ [y]) i = rd xs i := by
  simp [rd, List.getD_eq_getElem?_getD, List.getElem?_append_left h]
theorem rd_last (xs : List Int) (y : Int) : rd (xs ++ [y]) xs.length = y := by simp [rd]
theorem part_other (cells xs : List Int) (g h : Int) (hne : g ≠ h) : part cells (xs ++ [g]) h = part cells xs h := by
  unfold part
  rw [List.length_append, List.length_singleton, partTo_no (by rw [rd_last]; exact hne)]
  unfold partTo
  congr 1
  refine List.filter_congr fun i hi => ?_
  rw [rd_app _ _ _ (by simpa using hi)]
theorem all_parts {m : List Int} {C : Int} {cells xs : List Int} {many g : Nat} (hg : g < many) (h : (List.range many).all (fun g => okPart m C cells xs g) = true) :
    (List.range many).all (fun k => okPart m C cells (xs ++ [(g : Int)]) k) = okPart m C cells (xs ++ [(g : Int)]) g := by
  rw [Bool.eq_iff_iff, List.all_eq_true]
  rw [List.all_eq_true] at h
  constructor
  · exact fun h1 => h1 g (by simpa using hg)
  · intro h1 k hk
    by_cases e : k = g
    · rw [e]; exact h1
    · have := h k hk
      simpa only [okPart, part_other cells xs g k (by omega)] using this
theorem findS_eq {m : List Int} {C : Int} {cells : List Int} {many : Nat} : ∀ d xs, (List.range many).all (fun g => okPart m C cells xs g) = true → findS m C cells many d xs = findF m C cells many d xs
  | 0, xs, h => by rw [findS, if_pos h, findF]
  | d + 1, xs, h => by
    rw [findS, if_pos h, findF]
    refine scan_congr _ _ fun g _ hg => ?_
    have h1 := all_parts (g := g) (by omega) h
    cases hk : okPart m C cells (xs ++ [(g : Int)]) g
    · rw [hk] at h1
      rw [if_neg (by simp)]
      cases d <;> (rw [findS, h1]; rfl)
    · rw [if_pos rfl]
      exact findS_eq d _ (by rw [h1, hk])
theorem ordTo_free (m : List Int) (C : Int) : ∀ k, k ≤ m.length → ordTo m C [] k = some ((List.range k).map fun i : Nat => (i : Int))
  | 0, _ => rfl
  | k + 1, h => by
    have hok : ∀ i : Nat, okR m C [] ((List.range k).map fun i : Nat => (i : Int)) i = decide (k ≤ i) := fun i => by
      have : isIn ((List.range k).map fun i : Nat => (i : Int)) (i : Int) = decide (i < k) := by
        rw [Bool.eq_iff_iff]
        simp [isIn]
        exact ⟨fun ⟨a, h1, e⟩ => by omega, fun h1 => ⟨i, h1, rfl⟩⟩
      rw [okR, this]
      by_cases h1 : i < k
      · simp [h1, ready]
      · simp [h1, ready, show k ≤ i by omega]
    rw [ordTo, ordTo_free m C k (by omega), Option.bind_some, nx_find _ _ _ k (fun i _ h1 => by rw [hok]; simp; omega) (Nat.zero_le _) (by omega) (by rw [hok]; simp), if_neg (by omega), List.range_succ, List.map_append]
    rfl
theorem ord_free (m : List Int) (C : Int) : (ord m C []).isSome = true := by rw [ord, ordTo_free m C _ (Nat.le_refl _)]; rfl
theorem findS_start (m : List Int) (C : Int) (cells : List Int) (many : Nat) : findS m C cells many cells.length [] = findF m C cells many cells.length [] :=
  findS_eq _ _ (by rw [List.all_eq_true]; intro g _; exact ord_free m C)
theorem findF_len {m : List Int} {C : Int} {cells : List Int} {many : Nat} : ∀ d xs o, findF m C cells many d xs = some o → o.length = xs.length + d
  | 0, xs, o, h => by rw [findF] at h; injection h with h; rw [h]; rfl
  | d + 1, xs, o, h => by
    rw [findF] at h
    rcases scan_eq (f := fun g => if okPart m C cells (xs ++ [(g : Int)]) g then findF m C cells many d (xs ++ [(g : Int)]) else none) many 0 with ⟨h1, _⟩ | ⟨k, o1, _, _, h3, h4⟩
    · rw [h1] at h; cases h
    · rw [h4] at h
      injection h with h
      rw [← h]
      split at h3
      · have := findF_len d _ _ h3
        rw [List.length_append, List.length_singleton] at this
        omega
      · cases h3
set_option maxHeartbeats 400000 in
theorem l1Own_c (xs : List Int) (A : Option Addr) (c : Nat) (w : World) (hr : I.C w A xs.length xs) (hl : xs.length ≤ 1000000) :
    Calls Try.prog 85 #[.slice A xs.length c] w fun e w' => ∃ v, e = .returned v ∧ OI w' w.heap.size v xs ∧ Below w.heap.size w w' := by
  have HR := Aside0.mk hr
  clear hr
  go_enter Try.func85, Try.ntmps85
  have hE := OI_lit0 w w.heap.size (Nat.le_refl _)
  have hB := below_alloc (Below.refl w.heap.size w) (.cells #[] 3)
  go_wp2_with (at_builtin; refine appRows (.tmp 3) (.tmp 4) rfl rfl _ [] xs A c rfl rfl hE (Kd.C_below HR.out hB) hB hB.size (by simp; omega) ?_; intro v1 w1 ho hb hg)
  go_ret
  exact ⟨_, rfl, ho, hb⟩
set_option maxHeartbeats 400000 in
set_option maxRecDepth 100000 in
theorem Clone_c (xs : List Int) (ad : Addr) (c : Nat) (w : World) (hr : I.C w (some ad) xs.length xs) (hl : xs.length ≤ 1000000) :
    Calls Try.prog 88 #[.slice (some ad) xs.length c] w fun e w' => ∃ v, e = .returned v ∧ OI w' w.heap.size v xs ∧ Below w.heap.size w w' := by
  have HR := Aside0.mk hr
  clear hr
  have he := fun w => eqn_some w ad xs.length c
  go_enter Try.func88, Try.ntmps88
  have hE := OI_lit0 w w.heap.size (Nat.le_refl _)
  have hB := below_alloc (Below.refl w.heap.size w) (.cells #[] 3)
  go_wp2_with (at_builtin; refine appRows (.tmp 5) (.tmp 6) rfl rfl _ [] xs (some ad) c rfl rfl hE (Kd.C_below HR.out hB) hB hB.size (by simp; omega) ?_; intro v1 w1 ho hb hg)
  go_ret
  exact ⟨_, rfl, ho, hb⟩
end Go.Proofs.Ytgddmgcneefeeaa.M
