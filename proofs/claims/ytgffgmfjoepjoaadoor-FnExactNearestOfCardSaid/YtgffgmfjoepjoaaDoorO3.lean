/- The elements of a set: the program's members (over math/bits.TrailingZeros) and the reference's orList. -/
import Derived.Test.YtgffgmfjoepjoaaDoorO2
import Derived.Laws.Bits64b
set_option linter.unusedVariables false
set_option linter.unusedSimpArgs false
namespace Go.Proofs.YtgffgmfjoepjoaaDoor.M
open Go.RowKit Go.Proofs.YtgffgmfjoepjoaaDoorW.PrintWords
/-- The library's table lies as its initialiser lays it. -/
def DB (w : World) : Prop := 1 < w.heap.size ∧ ∀ j, j < Lib.deBruijn64tab.length → w.cell? ⟨1, j, none⟩ = some (.int .u8 (Lib.deBruijn64tab.getD j 0))
theorem DB.below {w w1 : World} (h : DB w) (hb : Below w.heap.size w w1) : DB w1 := ⟨Nat.lt_of_lt_of_le h.1 hb.size, fun j hj => (hb.cell (p := ⟨1, j, none⟩) h.1).trans (h.2 j hj)⟩
theorem tz_key (x a : Nat) (hx : x < 18446744073709551616) (hx0 : x ≠ 0) (hlow : x &&& (18446744073709551616 - x) = a) :
    IntKind.u64.wrap (bits BinOp.and IntKind.u64 (x : Int) (IntKind.u64.wrap (-(x : Int))) * 285870213051353865) / 288230376151711744 = ((a * 285870213051353865 % 18446744073709551616 / 288230376151711744 : Nat) : Int) := by
  have e1 : IntKind.u64.wrap (-(x : Int)) = ((18446744073709551616 - x : Nat) : Int) := by rw [IntKind.wrap_u64]; omega
  rw [e1, bits_and_u64_nat x _ hx (by omega), hlow, IntKind.wrap_u64]
  omega
set_option maxHeartbeats 1000000 in
theorem tz64_core (x k idx : Nat) (w : World) (hx0 : ((x : Int) == 0) = false)
    (key : IntKind.u64.wrap (bits BinOp.and IntKind.u64 (x : Int) (IntKind.u64.wrap (-(x : Int))) * 285870213051353865) / 288230376151711744 = (idx : Int))
    (hi : idx < 64) (hk : k < 64) (hcell : w.cell? ⟨1, idx, none⟩ = some (.int .u8 k)) :
    Calls Tryd.prog 185 #[.int .u64 x] w fun e w' => e = .returned (.int .i64 k) ∧ w' = w := by
  go_enter Tryd.func185, Tryd.ntmps185
  go_wp2_with (simp only [key])
  go_ret
  exact ⟨rfl, rfl⟩
theorem tz64_c (x : Nat) (hx : x < 18446744073709551616) (hx0 : x ≠ 0) (w : World) (hT : DB w) :
    Calls Tryd.prog 185 #[.int .u64 x] w fun e w' => e = .returned (.int .i64 (Lib.ctz 64 x)) ∧ w' = w := by
  obtain ⟨hlow, hk⟩ := Lib.lowest_bit 64 x hx0 hx
  obtain ⟨hi, htab⟩ := Lib.deBruijn64_at _ hk
  have hcell := hT.2 _ hi
  rw [htab] at hcell
  exact tz64_core x _ _ w (by simp; omega) (tz_key x _ hx hx0 hlow) hi hk hcell
set_option maxHeartbeats 400000 in
theorem tz_c (x : Nat) (hx : x < 18446744073709551616) (hx0 : x ≠ 0) (w : World) (hT : DB w) :
    Calls Tryd.prog 170 #[.int .u64 x] w fun e w' => e = .returned (.int .i64 (Lib.ctz 64 x)) ∧ w' = w := by
  have hw : IntKind.u64.wrap (x : Int) = (x : Int) := by rw [IntKind.wrap_u64]; omega
  have HT := Aside0.mk hT
  clear hT
  go_enter Tryd.func170, Tryd.ntmps170
  go_wp2_with (go_at_call 185; refine (tz64_c x hx hx0 _ HT.out).mono ?_; rintro e w' ⟨rfl, rfl⟩)
  go_ret
  exact ⟨rfl, rfl⟩
theorem Low.len {x y : Int} {n : Nat} {out : List Int} (h : Low x n y out) : out.length ≤ n := by
  obtain ⟨t, ht, rfl, _⟩ := h.is
  exact Nat.le_trans (bitsTo_len _ _) ht
set_option maxHeartbeats 800000 in
set_option maxRecDepth 100000 in
theorem members_c (x : Int) (n : Nat) (hn : n ≤ 62) (h0 : 0 ≤ x) (h1 : x < 2 ^ n) (w : World) (hT : DB w) :
    Calls Tryd.prog 127 #[.int .i64 x] w fun e w' => ∃ v, e = .returned v ∧ OI w' w.heap.size v (bitsOf x) ∧ Below w.heap.size w w' := by
  have HT := Aside0.mk hT
  have H0 := Aside0.mk (Low.start h0 h1)
  have h62 : x < 4611686018427387904 := by
    have : (2 : Int) ^ n ≤ 2 ^ 62 := by exact_mod_cast Nat.pow_le_pow_right (by decide) hn
    omega
  have hE := Aside0.mk (OI_lit0 w w.heap.size (Nat.le_refl _))
  have hB := Aside0.mk (below_alloc (Below.refl w.heap.size w) (.cells #[] 3))
  clear hT h1
  go_enter Tryd.func127, Tryd.ntmps127
  go_wp2
  go_loopw [0, 3] (fun s v wr => ∃ (y : Int) (out : List Int), s = .int .i64 y ∧ 0 ≤ y ∧ y < 4611686018427387904 ∧ out.length ≤ 62 ∧ Aside0 (Low x n y out) ∧ Aside0 (OI wr w.heap.size v out) ∧ Aside0 (Below w.heap.size w wr)) (fun s _ _ => (intOf s).toNat)
  case atStart => exact ⟨x, [], rfl, h0, h62, by simp, H0, hE, hB⟩
  case round =>
    clear hE hB H0
    obtain ⟨y, out, rfl, hy0, hy1, hol, HL, HV, HB⟩ := hrel
    by_cases hy : y = 0
    · subst hy
      have He := Aside0.mk (HL.out.stop hn)
      go_wp2
      go_ret
      exact ⟨_, rfl, by rw [← He.out]; exact HV.out, HB.out⟩
    · obtain ⟨c, hc, _⟩ := low_bit hn (show 0 < y by omega) HL.out.y1
      have HS := Aside0.mk (HL.out.step hn (by omega))
      obtain ⟨a, rfl⟩ := Int.eq_ofNat_of_zero_le hy0
      have hne : ((a : Int) != 0) = true := by simp; omega
      have hw : IntKind.u64.wrap (a : Int) = (a : Int) := by rw [IntKind.wrap_u64]; omega
      go_wp2_with fail
      refine (tz_c a (by omega) (by omega) _ (HT.out.below HB.out)).mono ?_
      rintro e w1 ⟨rfl, rfl⟩
      go_wp2_with (at_builtin; refine appI (.tmp 11) (.tmp 15) rfl rfl _ out _ rfl rfl HV.out HB.out HB.out.size (by omega) ?_; intro v1 w1 ho hb _; have HV1 := Aside0.mk ho; have HB1 := Aside0.mk hb; clear ho hb)
      have hS := HS.out
      rw [Int.toNat_natCast] at hS
      have hlen := hS.1.len
      have hS2 := hS.2.1
      have hS3 := hS.2.2.1
      have HS1 := Aside0.mk hS.1
      clear hS
      go_roundw
      case rel => exact ⟨_, _, rfl, hS3, by omega, by omega, HS1, HV1, HB1⟩
      case measure => simp [intOf]; omega
theorem has_of_div {x : Int} {k : Nat} (h0 : 0 ≤ x) (h : x / 2 ^ k = 0) : ∀ i : Nat, k ≤ i → has x i = false := by
  have hp : (0 : Int) < 2 ^ k := Int.pow_pos (by decide)
  have h1 : x < 2 ^ k := by
    have := Int.emod_add_mul_ediv x (2 ^ k)
    rw [h, Int.mul_zero, Int.add_zero] at this
    have := Int.emod_lt_of_pos x hp
    omega
  exact fun i hi => has_high h0 h1 hi
set_option maxHeartbeats 800000 in
set_option maxRecDepth 100000 in
theorem orList_c (x : Int) (n : Nat) (hn : n ≤ 62) (h0 : 0 ≤ x) (h1 : x < 2 ^ n) (w : World) :
    Calls Tryd.prog 162 #[.int .i64 x] w fun e w' => ∃ v, e = .returned v ∧ OI w' w.heap.size v (bitsOf x) ∧ Below w.heap.size w w' := by
  have H1 := Aside0.mk h1
  clear h1
  go_enter Tryd.func162, Tryd.ntmps162
  go_wp2
  go_loopw [3, 4] (fun v i wr => ∃ k : Nat, k ≤ 62 ∧ i = .int .i64 k ∧ Aside0 (OI wr w.heap.size v (bitsTo x k)) ∧ Aside0 (Below w.heap.size w wr)) (fun _ i _ => 62 - (intOf i).toNat)
  case atStart => exact ⟨0, Nat.zero_le _, rfl, ⟨OI_nil _ _⟩, ⟨Below.refl _ _⟩⟩
  case round =>
    obtain ⟨k, hk, rfl, HV, HB⟩ := hrel
    have hd0 := (div_le_self h0 k).1
    by_cases hz : x / 2 ^ k = 0
    · have He := Aside0.mk (bitsOf_eq hk (has_of_div h0 hz))
      have hz1 : decide (0 < x / 2 ^ k) = false := by simp; omega
      clear hz
      go_wp2
      go_ret
      exact ⟨_, rfl, by rw [He.out]; exact HV.out, HB.out⟩
    · have hz1 : decide (0 < x / 2 ^ k) = true := by simp; omega
      have hkn : k < n := by
        rcases Nat.lt_or_ge k n with h | h
        · exact h
        · refine absurd (Int.ediv_eq_zero_of_lt h0 (Int.lt_of_lt_of_le H1.out ?_)) hz
          exact_mod_cast Nat.pow_le_pow_right (by decide) h
      have hlen := bitsTo_len x k
      clear hz
      cases hb : has x k
      · have Hn := Aside0.mk (bitsTo_no hb)
        go_wp2_with (go_at_call 105; refine (orHas_b hb _ h0 (by omega) (by omega)).mono ?_; rintro e w1 ⟨rfl, rfl⟩)
        go_roundw
        case rel => exact ⟨k + 1, by omega, by go_num, by rw [Hn.out]; exact HV, HB⟩
        case measure => simp [intOf]; omega
      · have Hn := Aside0.mk (bitsTo_yes hb)
        go_wp2_with fail
        refine (orHas_b hb _ h0 (by omega) (by omega)).mono ?_
        rintro e w1 ⟨rfl, rfl⟩
        go_wp2_with (at_builtin; refine appI (.tmp 14) (.tmp 16) rfl rfl _ (bitsTo x k) _ rfl rfl HV.out HB.out HB.out.size (by omega) ?_; intro v1 w1 ho hb _; have HV1 := Aside0.mk ho; have HB1 := Aside0.mk hb; clear ho hb)
        go_roundw
        case rel => exact ⟨k + 1, by omega, by go_num, by rw [Hn.out]; exact HV1, HB1⟩
        case measure => simp [intOf]; omega
end Go.Proofs.YtgffgmfjoepjoaaDoor.M
