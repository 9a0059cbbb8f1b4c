/- The laid table, and rows over two ints. -/
import Derived.Test.YtgffgmfjoepjoaaDoorRows
import Derived.Test.YtgffgmfjoepjoaaDoorO3
import Derived.ProofKit
import Derived.LaidMore
import Derived.OpenShut
import Derived.Lib.LaidTab
import Derived.Stop.Joined
import Derived.WalkKit
import Derived.ShutString
import Derived.ChangeOld
import Derived.Below
import Derived.SizedLaws
import Derived.Lib.SmallJoins
namespace Go.Proofs.YtgffgmfjoepjoaaDoor.Laid
open Go.ChangeShapes Go.WideShapes Go.ChangeAt Go.RowKit Go.Joins Go.Proofs.YtgffgmfjoepjoaaDoorW.PrintWords
set_option linter.unusedVariables false
theorem own : ownKnob Tryd.prog.godebug = none := by kernel_rfl
theorem laidOut : laidOutB Tryd.prog = true := by kernel_rfl
def two : List (String × DataW Unit) := [("math/bits.deBruijn32tab", Rows.laid_math_bits_deBruijn32tab), ("math/bits.deBruijn64tab", Rows.laid_math_bits_deBruijn64tab)]
theorem door_met (os : Os) (args : Array Value) : laidMetH Tryd.prog two ((World.doorLaid Tryd.prog 65 os).forCall (fun _ _ => 0) ⟨#[], args, []⟩).memory :=
  laidMetH_of_parts3 (fuel := 8) (laidMet_of_run' 8 (by kernel_rfl) (by kernel_rfl)) (by kernel_rfl) (by kernel_rfl)
theorem g64 : Tryd.prog.globalNamed "math/bits.deBruijn64tab" = some 1 := by kernel_rfl
theorem t64 : (Tryd.prog.globals[1]?).map (·.type) = some 153 := by kernel_rfl
def tab : List Int := Lib.deBruijn64tab.map fun n : Nat => (n : Int)
theorem d64 : (Rows.laid_math_bits_deBruijn64tab : DataW Unit) = Lib.tabData .u8 tab := by rfl
theorem db_of {W : World} (h : laidMetH Tryd.prog two W) : M.DB W := by
  rw [MakeChecks.laidMetH_plain _ _ _ (by kernel_rfl)] at h
  obtain ⟨ps, ⟨g0, t0, cs0, f0, p0, q0, hg0, ht0, hv0, hd0, ⟨g1, t1, cs1, f1, p1, q1, hg1, ht1, hv1, hd1, _, _⟩, _⟩, _, _⟩ := h
  obtain rfl := Option.some.inj (g64.symm.trans hg1)
  obtain rfl := Option.some.inj (t64.symm.trans ht1)
  rw [d64] at hd1
  have hc := Lib.cells_of_tab Tryd.underlying153 Tryd.underlying5 (by kernel_rfl) (by kernel_rfl) hd1
  have ht : Lib.TabIs Tryd.prog W "math/bits.deBruijn64tab" .u8 tab := by
    unfold Lib.TabIs
    rw [hv1, ← hc]
  have hcell : ∀ j, j < Lib.deBruijn64tab.length → W.cell? ⟨1, j, none⟩ = some (.int .u8 (Lib.deBruijn64tab.getD j 0)) := fun j hj => by
    have h2 := ht.cell g64 j (by rw [tab, List.length_map]; exact hj)
    rw [h2]
    simp [tab, List.getD, hj]
  refine ⟨?_, hcell⟩
  have h0 := hcell 0 (by decide)
  rcases Nat.lt_or_ge 1 W.heap.size with h | h
  · exact h
  · simp [World.cell?, Array.getElem?_eq_none h] at h0
end Go.Proofs.YtgffgmfjoepjoaaDoor.Laid
