/- Tables: the program's split: the closure by a contract of its own. -/
import Derived.Test.YtgddmgcneefeeaaTB
set_option linter.unusedVariables false
set_option linter.unusedSimpArgs false
namespace Go.Proofs.Ytgddmgcneefeeaa.M
open Go.RowKit Go.Proofs.YtgddmgcneefeeaaW.PrintWords
theorem freeOrder_no {c : Nat} {m cells xs : List Int} {g : Int} (hv : VT c m) (h : okPart m c cells xs g = false) (hcell : ∀ x ∈ cells, 0 ≤ x ∧ x ≤ 35 ∧ x / c ≤ 5) (hcl : cells.length ≤ 36) (hxl : xs.length ≤ cells.length)
    (A A1 : Option Addr) (k n k1 : Nat) (w : World) (hr : I.C w A m.length m) (b1 : Nat) (hr1 : OI w b1 (.slice A1 n k1) (part cells xs g)) :
    Calls Try.prog 53 #[.agg #[.int .i64 (m.length : Int), .int .i64 (c : Int), .slice A m.length k], .slice A1 n k1] w fun e w' => e = .returned (.slice none 0 0) ∧ Below w.heap.size w w' := by
  have hn := (Kd.R_reads' hr1).1
  subst hn
  refine (freeOrder_c c m (part cells xs g) hv A A1 k k1 w hr (OI_C hr1) (fun x hx => hcell x (part_mem hxl hx)) (Nat.le_trans (part_len _ _ _) (by omega))).mono ?_
  rintro e w' ⟨v, rfl, ho, hb⟩
  rw [okPart, Option.isSome_eq_false_iff, Option.isNone_iff_eq_none] at h
  rw [h] at ho
  exact ⟨by rw [show v = _ from ho], hb⟩
theorem freeOrder_yes {c : Nat} {m cells xs : List Int} {g : Int} (hv : VT c m) (h : okPart m c cells xs g = true) (hcell : ∀ x ∈ cells, 0 ≤ x ∧ x ≤ 35 ∧ x / c ≤ 5) (hcl : cells.length ≤ 36) (hxl : xs.length ≤ cells.length)
    (A A1 : Option Addr) (k n k1 : Nat) (w : World) (hr : I.C w A m.length m) (b1 : Nat) (hr1 : OI w b1 (.slice A1 n k1) (part cells xs g)) :
    Calls Try.prog 53 #[.agg #[.int .i64 (m.length : Int), .int .i64 (c : Int), .slice A m.length k], .slice A1 n k1] w fun e w' => (∃ ad n k, e = .returned (.slice (some ad) n k)) ∧ Below w.heap.size w w' := by
  have hn := (Kd.R_reads' hr1).1
  subst hn
  refine (freeOrder_c c m (part cells xs g) hv A A1 k k1 w hr (OI_C hr1) (fun x hx => hcell x (part_mem hxl hx)) (Nat.le_trans (part_len _ _ _) (by omega))).mono ?_
  rintro e w' ⟨v, rfl, ho, hb⟩
  rw [okPart, Option.isSome_iff_exists] at h
  obtain ⟨o, h⟩ := h
  rw [h] at ho
  obtain ⟨_, ad, n, k, rfl⟩ := ho
  exact ⟨⟨ad, n, k, rfl⟩, hb⟩
theorem cellsWith_n (cells xs : List Int) (g : Int) (A A1 : Option Addr) (c c1 n : Nat) (hn : xs.length = n) (w : World) (hr : I.C w A cells.length cells) (hr1 : I.C w A1 n xs) (hl : n ≤ cells.length) (hl2 : cells.length ≤ 1000000000) :
    Calls Try.prog 54 #[.slice A cells.length c, .slice A1 n c1, .int .i64 g] w fun e w' => ∃ v, e = .returned v ∧ OI w' w.heap.size v (part cells xs g) ∧ Below w.heap.size w w' := by
  subst hn
  exact cellsWith_c cells xs g A A1 c c1 w hr hr1 hl hl2
/-- Nil, or not nil and reading as o. -/
def OptR (w : World) (v : Value) : Option (List Int) → Prop
  | none => v = .slice none 0 0
  | some xs => ∃ ad c, v = .slice (some ad) xs.length c ∧ I.C w (some ad) xs.length xs
/-- The variables that the closure captured. -/
structure Box (c : Nat) (m cells : List Int) (many : Nat) (A A1 : Option Addr) (k k1 pc pm pt pf : Nat) (w : World) : Prop where
  bc : w.heap[pc]? = some (.cells #[.slice A1 cells.length k1] 22 (0, 0))
  bm : w.heap[pm]? = some (.cells #[.int .i64 (many : Int)] 3 (0, 0))
  bt : w.heap[pt]? = some (.cells #[.int .i64 (m.length : Int), .int .i64 (c : Int), .slice A m.length k] 29 (0, 0))
  bf : w.heap[pf]? = some (.cells #[.func (.func 87) #[] #[.pointer (some ⟨pc, 0, none⟩), .pointer (some ⟨pm, 0, none⟩), .pointer (some ⟨pt, 0, none⟩), .pointer (some ⟨pf, 0, none⟩)]] 65 (0, 0))
  rm : I.C w A m.length m
  rc : I.C w A1 cells.length cells
theorem box4 {w' : World} {a b c d : Value} {g g1 t t1 : Nat} (h : w'.heap[g]? = some (.cells #[a, b, c] t (0, 0))) (h1 : w'.heap[g1]? = some (.cells #[d] t1 (0, 0))) :
    w'.cell? ⟨g, 0, none⟩ = some a ∧ w'.cell? ⟨g, 1, none⟩ = some b ∧ w'.cell? ⟨g, 2, none⟩ = some c ∧ w'.cell? ⟨g1, 0, none⟩ = some d := ⟨(box3 h).1, (box3 h).2.1, (box3 h).2.2, box1 h1⟩
theorem Box.below {c : Nat} {m cells : List Int} {many : Nat} {A A1 : Option Addr} {k k1 pc pm pt pf : Nat} {w w' : World} (h : Box c m cells many A A1 k k1 pc pm pt pf w) (hb : Below w.heap.size w w') : Box c m cells many A A1 k k1 pc pm pt pf w' :=
  ⟨blk_below h.bc hb, blk_below h.bm hb, blk_below h.bt hb, blk_below h.bf hb, Kd.C_below h.rm hb, Kd.C_below h.rc hb⟩
def fnd (m : List Int) (C : Int) (cells : List Int) (many d : Nat) (xs : List Int) (g : Nat) : Option (List Int) := if okPart m C cells (xs ++ [(g : Int)]) g then findF m C cells many d (xs ++ [(g : Int)]) else none
theorem findF_succ (m : List Int) (C : Int) (cells : List Int) (many d : Nat) (xs : List Int) : findF m C cells many (d + 1) xs = scan (fnd m C cells many d xs) many 0 := rfl
/-- What the closure does with d numbers to go. -/
def SplitC (c : Nat) (m cells : List Int) (many : Nat) (A A1 : Option Addr) (k k1 pc pm pt pf d : Nat) : Prop := ∀ (xs : List Int) (ad : Addr) (n k2 : Nat) (w : World), xs.length = n → cells.length = n + d →
    Box c m cells many A A1 k k1 pc pm pt pf w → I.C w (some ad) n xs →
    Calls Try.prog 87 #[.slice (some ad) n k2, .pointer (some ⟨pc, 0, none⟩), .pointer (some ⟨pm, 0, none⟩), .pointer (some ⟨pt, 0, none⟩), .pointer (some ⟨pf, 0, none⟩)] w fun e w' =>
      ∃ v, e = .returned v ∧ OptR w' v (findF m c cells many d xs) ∧ Below w.heap.size w w'
set_option maxHeartbeats 1600000 in
set_option maxRecDepth 100000 in
theorem split_step (c : Nat) (m cells : List Int) (hv : VT c m) (many : Nat) (hmany : many ≤ 4) (hcell : ∀ x ∈ cells, 0 ≤ x ∧ x ≤ 35 ∧ x / c ≤ 5) (hcl : cells.length ≤ 36) (A A1 : Option Addr) (k k1 pc pm pt pf : Nat)
    (d : Nat) (ih : ∀ e, e + 1 = d → SplitC c m cells many A A1 k k1 pc pm pt pf e) : SplitC c m cells many A A1 k k1 pc pm pt pf d := by
  intro xs ad n k2 w hn hd hbox hr2
  subst hn
  have IH := Aside0.mk ih
  have HBX := Aside0.mk hbox
  have HR2 := Aside0.mk hr2
  have HV := Aside0.mk hv
  have HC := Aside0.mk hcell
  have HD := Aside0.mk hd
  have hd1 : xs.length ≤ cells.length := by omega
  have hc0 := box1 hbox.bc
  have hm0 := box1 hbox.bm
  cases d with
  | zero =>
    have hq : ((xs.length : Int) == (cells.length : Int)) = true := by simp; omega
    clear ih hr2 hv hcell hd hbox
    go_enter Try.func87, Try.ntmps87
    go_wp2
    go_ret
    exact ⟨_, rfl, ⟨ad, k2, rfl, HR2.out⟩, Below.refl _ _⟩
  | succ d =>
    have hq : ((xs.length : Int) == (cells.length : Int)) = false := by simp; omega
    have hi := ih d rfl
    unfold SplitC at hi
    have IH2 := Aside0.mk hi
    clear ih hi hr2 hv hcell hd hbox
    go_enter Try.func87, Try.ntmps87
    go_wp2
    go_loopw [17] (fun i wr => ∃ g : Nat, g ≤ many ∧ i = .int .i64 g ∧ Aside0 (∀ i : Nat, i < g → fnd m c cells many d xs i = none) ∧ Aside0 (Below w.heap.size w wr)) (fun i _ => many - (intOf i).toNat)
    case atStart => exact ⟨0, Nat.zero_le _, rfl, ⟨fun i hi => by omega⟩, ⟨Below.refl _ _⟩⟩
    case round =>
      clear hc0 hm0
      obtain ⟨g, hg, rfl, HF, HB⟩ := hrel
      have HX := Aside0.mk (HBX.out.below HB.out)
      by_cases hlt : g < many
      · go_wp2_with (first | (go_at_call 88; with_reducible refine (Clone_c xs ad k2 _ (Kd.C_below HR2.out HB.out) (by omega)).mono ?_; rintro e w1 ⟨v1, rfl, ho1, hb1⟩; obtain ⟨A6, c6, rfl, _⟩ := OI_shape ho1; have HO1 := Aside0.mk ho1; have HS1 := Aside0.mk hb1; have HB1 := Aside0.mk (below_step HB.out hb1); clear ho1 hb1) | (at_builtin; refine appRows (.tmp 21) (.tmp 23) rfl rfl (.slice A6 xs.length c6) xs [(g : Int)] _ 1 rfl rfl (Kd.R_alloc HO1.out _) (lit1 _ _) (below_alloc HS1.out _) (Nat.le_trans HS1.out.size (size_alloc_le _ _)) (by simp; omega) ?_; intro v1 w1 ho hb hg; obtain ⟨ad7, c7, rfl, ho⟩ := OI_snoc ho; have HO2 := Aside0.mk ho; have HB2 := Aside0.mk (below_step HB.out hb); clear ho hb hg))
        have HX2 := Aside0.mk (HBX.out.below HB2.out)
        have hc0 := box1 HX2.out.bc
        obtain ⟨ht0, ht1, ht2⟩ := box3 HX2.out.bt
        have hsz : Aside0 ((xs ++ [(g : Int)]).length = xs.length + 1) := ⟨by rw [List.length_append, List.length_singleton]⟩
        have hfn : Aside0 (fnd m c cells many d xs g = if okPart m c cells (xs ++ [(g : Int)]) g then findF m c cells many d (xs ++ [(g : Int)]) else none) := ⟨rfl⟩
        have hlen : xs.length + 1 ≤ cells.length := by have := HD.out; omega
        cases hb : okPart m c cells (xs ++ [(g : Int)]) g
        · have Hb := Aside0.mk hb
          rw [hb] at hfn
          clear hb
          have hnn := fun w => eqn_none w
          go_region_held3 (fun w' => w'.cell? ⟨pt, 0, none⟩ = some (.int .i64 (m.length : Int)) ∧ w'.cell? ⟨pt, 1, none⟩ = some (.int .i64 (c : Int)) ∧ w'.cell? ⟨pt, 2, none⟩ = some (.slice A m.length k) ∧ w'.cell? ⟨pc, 0, none⟩ = some (.slice A1 cells.length k1)) (first | exact ⟨ht0, ht1, ht2, hc0⟩ | exact HT4.out | exact HT3.out)
            (first | (go_at_call 54; with_reducible refine (cellsWith_n cells (xs ++ [(g : Int)]) g A1 _ k1 _ _ hsz.out _ (Kd.C_below HBX.out.rc (below_drew1 HB2.out)) (OI_C (Kd.R_drew HO2.out)) hlen (by omega)).mono ?_; rintro e w3 ⟨v3, rfl, ho3, hb3⟩; obtain ⟨A8, c8, rfl, _⟩ := OI_shape ho3; have HO3 := Aside0.mk ho3; have HB3 := Aside0.mk (below_step (below_drew1 HB2.out) hb3); have HX3 := Aside0.mk (HBX.out.below HB3.out); have HT3 := Aside0.mk (box4 HX3.out.bt HX3.out.bc); have HC3 := Aside0.mk (Kd.C_below (OI_C (Kd.R_drew HO2.out)) hb3); clear ho3 hb3) | (go_at_call 53; with_reducible refine (freeOrder_no HV.out Hb.out HC.out hcl (by rw [hsz.out]; exact hlen) A _ k _ _ _ HX3.out.rm _ HO3.out).mono ?_; rintro e w4 ⟨rfl, hb4⟩; have HB4 := Aside0.mk (below_step HB3.out hb4); have HX4 := Aside0.mk (HBX.out.below HB4.out); have HT4 := Aside0.mk (box4 HX4.out.bt HX4.out.bc); have HC4 := Aside0.mk (Kd.C_below HC3.out hb4); clear hb4))
          go_wp2
          go_roundw
          case rel => exact ⟨g + 1, by omega, by go_num, ⟨fun i hi => by rcases Nat.lt_or_ge i g with h | h; exact HF.out i h; rw [show i = g by omega]; exact hfn.out⟩, HB4⟩
          case measure => simp [intOf]; omega
        · have Hb := Aside0.mk hb
          rw [hb] at hfn
          clear hb
          go_region_held3 (fun w' => w'.cell? ⟨pt, 0, none⟩ = some (.int .i64 (m.length : Int)) ∧ w'.cell? ⟨pt, 1, none⟩ = some (.int .i64 (c : Int)) ∧ w'.cell? ⟨pt, 2, none⟩ = some (.slice A m.length k) ∧ w'.cell? ⟨pc, 0, none⟩ = some (.slice A1 cells.length k1)) (first | exact ⟨ht0, ht1, ht2, hc0⟩ | exact HT4.out | exact HT3.out)
            (first | (go_at_call 54; with_reducible refine (cellsWith_n cells (xs ++ [(g : Int)]) g A1 _ k1 _ _ hsz.out _ (Kd.C_below HBX.out.rc (below_drew1 HB2.out)) (OI_C (Kd.R_drew HO2.out)) hlen (by omega)).mono ?_; rintro e w3 ⟨v3, rfl, ho3, hb3⟩; obtain ⟨A8, c8, rfl, _⟩ := OI_shape ho3; have HO3 := Aside0.mk ho3; have HB3 := Aside0.mk (below_step (below_drew1 HB2.out) hb3); have HX3 := Aside0.mk (HBX.out.below HB3.out); have HT3 := Aside0.mk (box4 HX3.out.bt HX3.out.bc); have HC3 := Aside0.mk (Kd.C_below (OI_C (Kd.R_drew HO2.out)) hb3); clear ho3 hb3) | (go_at_call 53; with_reducible refine (freeOrder_yes HV.out Hb.out HC.out hcl (by rw [hsz.out]; exact hlen) A _ k _ _ _ HX3.out.rm _ HO3.out).mono ?_; rintro e w4 ⟨⟨ad9, n9, c9, rfl⟩, hb4⟩; have hns := fun w => eqn_some w ad9 n9 c9; have HB4 := Aside0.mk (below_step HB3.out hb4); have HX4 := Aside0.mk (HBX.out.below HB4.out); have HT4 := Aside0.mk (box4 HX4.out.bt HX4.out.bc); have HC4 := Aside0.mk (Kd.C_below HC3.out hb4); clear hb4))
          have hf0 := box1 HX4.out.bf
          go_wp2_with fail
          refine (IH2.out (xs ++ [(g : Int)]) ad7 _ c7 _ hsz.out (by have := HD.out; omega) HX4.out HC4.out).mono ?_
          rintro e w5 ⟨v5, rfl, ho5, hb5⟩
          have HB5 := Aside0.mk (below_step HB4.out hb5)
          clear hb5
          cases hf : findF m c cells many d (xs ++ [(g : Int)]) with
          | none =>
            have hfn1 : Aside0 (fnd m c cells many d xs g = none) := ⟨hfn.out.trans hf⟩
            rw [hf] at ho5
            have e5 : v5 = .slice none 0 0 := ho5
            clear ho5 hf
            subst e5
            have hnn := fun w => nen_none w
            go_wp2
            go_roundw
            case rel => exact ⟨g + 1, by omega, by go_num, ⟨fun i hi => by rcases Nat.lt_or_ge i g with h | h; exact HF.out i h; rw [show i = g by omega]; exact hfn1.out⟩, HB5⟩
            case measure => simp [intOf]; omega
          | some o =>
            have Hs : Aside0 (findF m c cells many (d + 1) xs = some o) := ⟨(findF_succ ..).trans (scan_some many 0 g (fun i _ h => HF.out i h) (Nat.zero_le _) (by omega) (hfn.out.trans hf))⟩
            rw [hf] at ho5
            obtain ⟨ad5, c5, rfl, hc5⟩ := ho5
            have HC5 := Aside0.mk hc5
            clear hf hc5
            have hnn := fun w => nen_some w ad5 o.length c5
            go_wp2
            go_ret
            exact ⟨_, rfl, by rw [Hs.out]; exact ⟨ad5, c5, rfl, HC5.out⟩, HB5.out⟩
      · have Hs : Aside0 (findF m c cells many (d + 1) xs = none) := ⟨(findF_succ ..).trans (scan_none many 0 (fun i _ h => HF.out i (by omega)))⟩
        go_wp2
        go_ret
        exact ⟨_, rfl, by rw [Hs.out]; rfl, HB.out⟩
theorem split1_c (c : Nat) (m cells : List Int) (hv : VT c m) (many : Nat) (hmany : many ≤ 4) (hcell : ∀ x ∈ cells, 0 ≤ x ∧ x ≤ 35 ∧ x / c ≤ 5) (hcl : cells.length ≤ 36) (A A1 : Option Addr) (k k1 pc pm pt pf : Nat) : ∀ d, SplitC c m cells many A A1 k k1 pc pm pt pf d
  | 0 => split_step c m cells hv many hmany hcell hcl A A1 k k1 pc pm pt pf 0 (fun e h => by omega)
  | d + 1 => split_step c m cells hv many hmany hcell hcl A A1 k k1 pc pm pt pf (d + 1) (fun e h => (show d = e by omega) ▸ split1_c c m cells hv many hmany hcell hcl A A1 k k1 pc pm pt pf d)
end Go.Proofs.Ytgddmgcneefeeaa.M
