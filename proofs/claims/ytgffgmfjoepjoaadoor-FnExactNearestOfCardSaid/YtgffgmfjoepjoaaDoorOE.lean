/- Kinds of orders. -/
import Derived.Test.YtgffgmfjoepjoaaDoorOD
set_option linter.unusedVariables false
set_option linter.unusedSimpArgs false
namespace Go.Proofs.YtgffgmfjoepjoaaDoor.M
open Go.RowKit Go.Proofs.YtgffgmfjoepjoaaDoorW.PrintWords
theorem scan_isSome {α : Type} {f : Nat → Option α} {d g : Nat} : (scan f d g).isSome = true ↔ ∃ k, g ≤ k ∧ k < g + d ∧ (f k).isSome = true := by
  rcases scan_eq (f := f) d g with ⟨h1, h2⟩ | ⟨k, o, h1, h2, h3, h4⟩
  · rw [h1]
    constructor
    · intro h; cases h
    · rintro ⟨k, a, b, c⟩; rw [h2 k a b] at c; cases c
  · rw [h4]
    exact ⟨fun _ => ⟨k, h1, h2, by rw [h3]; rfl⟩, fun _ => rfl⟩
theorem fsq_isSome {α : Type} {L : List Int} {f : Int → Option α} : (fsq L f).isSome = true ↔ ∃ x, x ∈ L ∧ (f x).isSome = true := by
  rw [fsq, scan_isSome]
  constructor
  · rintro ⟨k, _, h1, h2⟩; exact ⟨rd L k, rd_mem (by omega) (by omega), h2⟩
  · rintro ⟨x, hx, h⟩
    obtain ⟨q, hq, e⟩ := List.getElem_of_mem hx
    refine ⟨q, Nat.zero_le _, by omega, ?_⟩
    rw [rd, List.getD_eq_getElem?_getD, Int.toNat_natCast, List.getElem?_eq_getElem hq]
    simpa [e] using h
theorem ttAt_some (l : List Int) (a b c d : Nat) : (ttAt l a b c d).isSome = ttB l a b c d := by
  rw [ttAt]; cases ttB l a b c d <;> rfl
theorem ssAt_some (l : List Int) (a : Nat) (b : Int) (c : Nat) (d : Int) : (ssAt l a b c d).isSome = (has (near l a) d && has (near l c) b) := by
  rw [ssAt]; cases (has (near l a) d && has (near l c) b) <;> rfl
theorem tt_iff (l : List Int) : (ttF l).isSome = true ↔ ∃ a b c d, a < l.length ∧ b < l.length ∧ c < l.length ∧ d < l.length ∧ bet l a b = true ∧ bet l c d = true ∧ bet l c b = false ∧ bet l a d = false := by
  simp only [ttF, ttE, ttD, ttC, scan_isSome, ttAt_some]
  constructor
  · rintro ⟨a, _, ha, b, _, hb, c, _, hc, d, _, hd, h⟩
    rw [ttB] at h
    simp only [Bool.and_eq_true, Bool.not_eq_true'] at h
    exact ⟨a, b, c, d, by omega, by omega, by omega, by omega, h.1, h.2.1, h.2.2.1, h.2.2.2⟩
  · rintro ⟨a, b, c, d, ha, hb, hc, hd, h1, h2, h3, h4⟩
    exact ⟨a, by omega, by omega, b, by omega, by omega, c, by omega, by omega, d, by omega, by omega, by rw [ttB, h1, h2, h3, h4]; rfl⟩
theorem ss_iff {l : List Int} (hv : VO l) : (ssF l).isSome = true ↔ ∃ a b c d, a < l.length ∧ b < l.length ∧ c < l.length ∧ d < l.length ∧ bet l a b = true ∧ bet l c d = true ∧ has (near l a) d = true ∧ has (near l c) b = true := by
  have hn : l.length ≤ 62 := by have := hv.l10; omega
  simp only [ssF, ssE, ssD, ssC, scan_isSome, fsq_isSome, ssAt_some, Bool.and_eq_true]
  constructor
  · rintro ⟨a, _, ha, b, hb, c, _, hc, d, hd, h⟩
    have ha' : a < l.length := by omega
    have hc' : c < l.length := by omega
    obtain ⟨b, rfl, hb1, hb2⟩ := (mem_bitsOf hn (hv.rd ha').1 (hv.rd ha').2.1).1 hb
    obtain ⟨d, rfl, hd1, hd2⟩ := (mem_bitsOf hn (hv.rd hc').1 (hv.rd hc').2.1).1 hd
    exact ⟨a, b, c, d, ha', hb1, hc', hd1, hb2, hd2, h.1, h.2⟩
  · rintro ⟨a, b, c, d, ha, hb, hc, hd, h1, h2, h3, h4⟩
    exact ⟨a, by omega, by omega, b, (mem_bitsOf hn (hv.rd ha).1 (hv.rd ha).2.1).2 ⟨b, rfl, hb, h1⟩, c, by omega, by omega, d, (mem_bitsOf hn (hv.rd hc).1 (hv.rd hc).2.1).2 ⟨d, rfl, hd, h2⟩, h3, h4⟩
theorem near_has {l : List Int} (hv : VO l) {i j : Nat} (hi : i < l.length) (hj : j < l.length) : has (near l i) j = true ↔ bet l i j = false ∧ bet l j i = false ∧ j ≠ i := by
  rw [(near_spec hv hi).2.2]
  simp [hj]
theorem ss_tt {l : List Int} (ho : IsOrd l) : (ssF l).isSome = (ttF l).isSome := by
  have hv := ho.vo
  rw [Bool.eq_iff_iff, ss_iff hv, tt_iff]
  constructor
  · rintro ⟨a, b, c, d, ha, hb, hc, hd, h1, h2, h3, h4⟩
    exact ⟨a, b, c, d, ha, hb, hc, hd, h1, h2, ((near_has hv hc hb).1 h4).1, ((near_has hv ha hd).1 h3).1⟩
  · rintro ⟨a, b, c, d, ha, hb, hc, hd, h1, h2, h3, h4⟩
    refine ⟨a, b, c, d, ha, hb, hc, hd, h1, h2, (near_has hv ha hd).2 ⟨h4, ?_, ?_⟩, (near_has hv hc hb).2 ⟨h3, ?_, ?_⟩⟩
    · cases h : bet l d a
      · rfl
      · rw [ho.tr c a b hc (ho.tr c d a hc h2 h) h1] at h3; cases h3
    · rintro rfl; rw [ho.tr c d b hc h2 h1] at h3; cases h3
    · cases h : bet l b c
      · rfl
      · rw [ho.tr a c d ha (ho.tr a b c ha h1 h) h2] at h4; cases h4
    · rintro rfl; rw [ho.tr a b d ha h1 h2] at h4; cases h4
def weakB (s : Int) (l : List Int) : Bool := ordB s l && (twoF l).isNone
def intB (s : Int) (l : List Int) : Bool := ordB s l && (ttF l).isNone
def semiB (s : Int) (l : List Int) : Bool := intB s l && (thF l).isNone
def kindB (s : Int) (l : List Int) (kind : Int) : Bool := if kind = 0 then weakB s l else if kind = 1 then semiB s l else if kind = 2 then intB s l else ordB s l
theorem isNone_of {α : Type} {o : Option α} : o.isNone = !o.isSome := by cases o <;> rfl
theorem optI_shape {W : World} {b : Nat} {v : Value} {o : Option (List Int)} (h : OptI W b v o) : (v = .slice none 0 0 ∧ o.isNone = true) ∨ ∃ ad n c, v = .slice (some ad) n c ∧ o.isNone = false := by
  cases o with
  | none => exact .inl ⟨h, rfl⟩
  | some xs => obtain ⟨_, ad, n, c, rfl⟩ := h; exact .inr ⟨ad, n, c, rfl, rfl⟩
end Go.Proofs.YtgffgmfjoepjoaaDoor.M
