/- Lists of tables: their cells. -/
import Derived.Test.YtgddmgcneefeeaaL2
import Derived.Test.YtgddmgcneefeeaaWApart
set_option linter.unusedVariables false
set_option linter.unusedSimpArgs false
namespace Go.Proofs.Ytgddmgcneefeeaa.M
open Go.RowKit Go.Proofs.YtgddmgcneefeeaaW.PrintWords
abbrev Tab := Int × Int × List Int
def kT : Kd Tab := Kd.pair I (Kd.pair I (Kd.slice 3 I))
def zT : Tab := (0, 0, [])
theorem kT_open {w : World} {x : Tab} {cs : List Value} (h : kT.K w x cs) : ∃ A c, cs = [.int .i64 x.1, .int .i64 x.2.1, .slice A x.2.2.length c] ∧ x.2.2.length ≤ c ∧ I.C w A x.2.2.length x.2.2 := by
  obtain ⟨c0, c1, rfl, h0, c2, c3, rfl, h1, A, c, rfl, h2, h3⟩ := h
  rw [show c0 = [.int .i64 x.1] from h0, show c2 = [.int .i64 x.2.1] from h1]
  exact ⟨A, c, rfl, h2, h3⟩
theorem kT_openM {w : World} {base : Nat} {ok : Nat → Prop} {x : Tab} {cs : List Value} (h : kT.M w base ok x cs) : ∃ v, cs = [.int .i64 x.1, .int .i64 x.2.1, v] ∧ I.R 3 w base ok v x.2.2 := by
  obtain ⟨c0, c1, rfl, h0, c2, c3, rfl, h1, v, rfl, h2⟩ := h
  rw [show c0 = [.int .i64 x.1] from h0, show c2 = [.int .i64 x.2.1] from h1]
  exact ⟨v, rfl, h2⟩
theorem kT_mkM {w : World} {base : Nat} {ok : Nat → Prop} (x : Tab) {v : Value} (h : I.R 3 w base ok v x.2.2) : kT.M w base ok x [.int .i64 x.1, .int .i64 x.2.1, v] := ⟨[.int .i64 x.1], [.int .i64 x.2.1, v], rfl, rfl, [.int .i64 x.2.1], [v], rfl, rfl, v, rfl, h⟩
theorem cell_lt {w w1 : World} {a : Addr} {v : Value} (hb : Below w.heap.size w w1) (h : w.cell? a = some v) : w1.cell? a = some v := (hb.cell (World.block_lt_of_cell? w _ h)).trans h
def rdT (ts : List Tab) (i : Nat) : Tab := ts.getD i zT
theorem at_T {w : World} {A : Option Addr} {n : Nat} {ts : List Tab} (h : Kd.C kT w A n ts) (i : Nat) (h1 : i < n) :
    ∃ ad A' c', A = some ad ∧ w.cell? (ad.add (i * 3)) = some (.int .i64 (rdT ts i).1) ∧ w.cell? ⟨(ad.add (i * 3)).block, (ad.add (i * 3)).off + 1, none⟩ = some (.int .i64 (rdT ts i).2.1) ∧ w.cell? ⟨(ad.add (i * 3)).block, (ad.add (i * 3)).off + 2, none⟩ = some (.slice A' (rdT ts i).2.2.length c') ∧ I.C w A' (rdT ts i).2.2.length (rdT ts i).2.2 := by
  obtain ⟨ad, c, e, _, hK, hc⟩ := Kd.C_get h zT i (by omega) (by omega)
  obtain ⟨A', c', rfl, _, hI⟩ := kT_open hK
  rw [Int.toNat_natCast] at hI hc
  exact ⟨ad, A', c', e, hc 0 _ rfl, by rw [← add_field _ _ 1 (by omega)]; exact hc 1 _ rfl, by rw [← add_field _ _ 2 (by omega)]; exact hc 2 _ rfl, hI⟩
end Go.Proofs.Ytgddmgcneefeeaa.M
