/- impl.ordersOf. -/
import Derived.Test.YtgffgmfjoepjoaaDoorOL
set_option linter.unusedVariables false
set_option linter.unusedSimpArgs false
namespace Go.Proofs.YtgffgmfjoepjoaaDoor.M
open Go.RowKit Go.Proofs.YtgffgmfjoepjoaaDoorW.PrintWords
theorem sza (W : World) (o : Obj) : (W.alloc o).heap.size = W.heap.size + 1 := by show (W.heap.push _).size = _; rw [Array.size_push]
theorem SO_empty {W : World} {base : Nat} {ok : Nat → Prop} (hb : base ≤ W.heap.size) (hok : ok W.heap.size) : SO (W.alloc (.cells #[] 34)) base ok (.slice (some ⟨W.heap.size, 0, none⟩) 0 0) [] :=
  ⟨fun _ => 0, fun k hk => by simp only [Value.ownBlock] at hk; injection hk with hk; exact hk ▸ hok, OwnRow.lit (ps := []) (inner := []) W base (Reps.none _ _) hb (by simp)⟩
theorem fill_start (n : Nat) (hn : n ≤ 4) (kind : Int) (w : World) (hT : DB w) : ∀ s W, s = w.heap.size → W = ((((((w.alloc (.cells #[.int .i64 (n : Int)] 3)).alloc (.cells #[.int .i64 kind] 3)).alloc (.cells #[] 34)).alloc (.cells #[.slice (some ⟨s + 1 + 1, 0, none⟩) 0 0] 25)).alloc
      (.cells #[.func (.func 157) #[] #[.pointer (some ⟨s, 0, none⟩), .pointer (some ⟨s + 1, 0, none⟩), .pointer (some ⟨s + 1 + 1 + 1, 0, none⟩), .pointer (some ⟨s + 1 + 1 + 1 + 1, 0, none⟩)]] 126)).alloc (.cells #[] 3)) →
    Calls Tryd.prog 157 #[.slice (some ⟨s + 1 + 1 + 1 + 1 + 1, 0, none⟩) 0 0, .pointer (some ⟨s, 0, none⟩), .pointer (some ⟨s + 1, 0, none⟩), .pointer (some ⟨s + 1 + 1 + 1, 0, none⟩), .pointer (some ⟨s + 1 + 1 + 1 + 1, 0, none⟩)] W fun e w' =>
      e = .returned (.tuple #[]) ∧ ∃ A c, Aside0 (w'.heap[s + 1 + 1 + 1]? = some (.cells #[.slice A (ords n kind n []).length c] 25 (0, 0))) ∧ Aside0 (SO w' w.heap.size T (.slice A (ords n kind n []).length c) (ords n kind n [])) ∧ Aside0 (Below w.heap.size w w') := by
  intro s W hs hW
  have hB : Below w.heap.size w W := by rw [hW]; exact below_alloc (below_alloc (below_alloc (below_alloc (below_alloc (below_alloc (Below.refl _ _) _) _) _) _) _) _
  have hz : W.heap.size = s + 6 := by rw [hW, hs]; simp only [sza]
  have h0 : W.heap[s]? = some (.cells #[.int .i64 (n : Int)] 3 (0, 0)) := by rw [hW]; exact blk_alloc (blk_alloc (blk_alloc (blk_alloc (blk_alloc (blk_this hs.symm) _) _) _) _) _
  have h1 : W.heap[s + 1]? = some (.cells #[.int .i64 kind] 3 (0, 0)) := by rw [hW]; exact blk_alloc (blk_alloc (blk_alloc (blk_alloc (blk_this (by simp only [sza, hs])) _) _) _) _
  have h3 : W.heap[s + 1 + 1 + 1]? = some (.cells #[.slice (some ⟨s + 1 + 1, 0, none⟩) 0 0] 25 (0, 0)) := by rw [hW]; exact blk_alloc (blk_alloc (blk_this (by simp only [sza, hs])) _) _
  have h4 : W.heap[s + 1 + 1 + 1 + 1]? = some (.cells #[.func (.func 157) #[] #[.pointer (some ⟨s, 0, none⟩), .pointer (some ⟨s + 1, 0, none⟩), .pointer (some ⟨s + 1 + 1 + 1, 0, none⟩), .pointer (some ⟨s + 1 + 1 + 1 + 1, 0, none⟩)]] 126 (0, 0)) := by
    rw [hW]; exact blk_alloc (blk_this (by simp only [sza, hs])) _
  have h5 : W.heap[s + 1 + 1 + 1 + 1 + 1]? = some (.cells #[] 3 (0, 0)) := by rw [hW]; exact blk_this (by simp only [sza, hs])
  have hS : SO W w.heap.size (fun k => ¬ (k = s ∨ k = s + 1 ∨ k = s + 4 ∨ k = s + 5)) (.slice (some ⟨s + 1 + 1, 0, none⟩) 0 0) [] := by
    have he : s + 1 + 1 = ((w.alloc (.cells #[.int .i64 (n : Int)] 3)).alloc (.cells #[.int .i64 kind] 3)).heap.size := by simp only [sza, hs]
    rw [hW]
    refine Kd.S_alloc (Kd.S_alloc (Kd.S_alloc ?_ _) _) _
    have := SO_empty (W := (w.alloc (.cells #[.int .i64 (n : Int)] 3)).alloc (.cells #[.int .i64 kind] 3)) (base := w.heap.size) (ok := fun k => ¬ (k = s ∨ k = s + 1 ∨ k = s + 4 ∨ k = s + 5)) (by rw [← he]; omega) (by rw [← he]; omega)
    rw [← he] at this
    exact this
  have h16 : 16 ^ n ≤ 65536 := by
    have : (16 : Nat) ^ n ≤ 16 ^ 4 := Nat.pow_le_pow_right (by decide) hn
    omega
  refine (fill_c n hn kind n [] w (fun k => k = s ∨ k = s + 1 ∨ k = s + 4 ∨ k = s + 5) (s + 1 + 1 + 1 + 1 + 1) 0 0 s (s + 1) (s + 1 + 1 + 1) (s + 1 + 1 + 1 + 1) _ [] W hT rfl (by omega)
    (OI_mk (by omega) h5 (by simp) (by decide) rfl rfl) hB (by omega) (fun k hk => by omega) (by omega) (by omega) (by omega) (by omega) ⟨h0, h1, h3, h4, by omega, by omega, by omega, by omega⟩ hS (by simp; omega)).mono ?_
  rintro e w' ⟨rfl, v, hf, hso, _, hbe, _, _⟩
  rw [List.nil_append] at hso
  obtain ⟨A, c, rfl⟩ := Kd.S_slice hso
  exact ⟨rfl, A, c, ⟨hf.ho⟩, ⟨Kd.S_mono hso (fun _ _ => trivial)⟩, ⟨hbe⟩⟩
set_option maxHeartbeats 1600000 in
set_option maxRecDepth 100000 in
theorem ordersOf_c (n : Nat) (hn : n ≤ 4) (kind : Int) (w : World) (hT : DB w) :
    Calls Tryd.prog 89 #[.int .i64 (n : Int), .int .i64 kind] w fun e w' => ∃ v, e = .returned v ∧ SO w' w.heap.size T v (ords n kind n []) ∧ Below w.heap.size w w' := by
  have hmf : ∀ (fn : Fn) (first cap : Array Value) (w : World), (Instr.makeFunc fn first cap).run Tryd.prog w = .ok (.func fn first cap) w := fun _ _ _ _ => rfl
  have HT := Aside0.mk hT
  clear hT
  go_enter Tryd.func89, Tryd.ntmps89
  go_wp2_with fail
  refine (fill_start n hn kind w HT.out _ _ rfl rfl).mono ?_
  rintro e w1 ⟨rfl, A, c, h3, hS, hB⟩
  have hc := box1 h3.out
  go_wp2
  go_ret
  exact ⟨_, rfl, hS.out, hB.out⟩
end Go.Proofs.YtgffgmfjoepjoaaDoor.M
