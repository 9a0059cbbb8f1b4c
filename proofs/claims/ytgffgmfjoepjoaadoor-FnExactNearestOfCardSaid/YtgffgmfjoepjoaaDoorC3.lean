/- Copies of lists. -/
import Derived.Test.YtgffgmfjoepjoaaDoorC1
set_option linter.unusedVariables false
set_option linter.unusedSimpArgs false
namespace Go.Proofs.YtgffgmfjoepjoaaDoor.M
open Go.RowKit Go.Proofs.YtgffgmfjoepjoaaDoorW.PrintWords
theorem l1Own_c (xs : List Int) (A : Option Addr) (c : Nat) (w : World) (hr : I.C w A xs.length xs) (hl : xs.length ≤ 1000000) :
    Calls Tryd.prog 154 #[.slice A xs.length c] w fun e w' => ∃ v, e = .returned v ∧ OI w' w.heap.size v xs ∧ Below w.heap.size w w' := by
  have HR := Aside0.mk hr
  clear hr
  go_enter Tryd.func154, Tryd.ntmps154
  have hE := OI_lit0 w w.heap.size (Nat.le_refl _)
  have hB := below_alloc (Below.refl w.heap.size w) (.cells #[] 3)
  go_wp2_with (at_builtin; refine appRows (.tmp 3) (.tmp 4) rfl rfl _ [] xs A c rfl rfl hE (Kd.C_below HR.out hB) hB hB.size (by simp; omega) ?_; intro v1 w1 ho hb hg)
  go_ret
  exact ⟨_, rfl, ho, hb⟩
set_option maxHeartbeats 400000 in
set_option maxRecDepth 100000 in
theorem Clone_c (xs : List Int) (ad : Addr) (c : Nat) (w : World) (hr : I.C w (some ad) xs.length xs) (hl : xs.length ≤ 1000000) :
    Calls Tryd.prog 158 #[.slice (some ad) xs.length c] w fun e w' => ∃ v, e = .returned v ∧ OI w' w.heap.size v xs ∧ Below w.heap.size w w' := by
  have HR := Aside0.mk hr
  clear hr
  have he := fun w => eqn_some w ad xs.length c
  go_enter Tryd.func158, Tryd.ntmps158
  have hE := OI_lit0 w w.heap.size (Nat.le_refl _)
  have hB := below_alloc (Below.refl w.heap.size w) (.cells #[] 3)
  go_wp2_with (at_builtin; refine appRows (.tmp 5) (.tmp 6) rfl rfl _ [] xs (some ad) c rfl rfl hE (Kd.C_below HR.out hB) hB hB.size (by simp; omega) ?_; intro v1 w1 ho hb hg)
  go_ret
  exact ⟨_, rfl, ho, hb⟩
end Go.Proofs.YtgffgmfjoepjoaaDoor.M
