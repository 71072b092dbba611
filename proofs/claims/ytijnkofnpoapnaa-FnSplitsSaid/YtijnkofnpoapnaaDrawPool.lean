/- The walks of the drawing of pools. -/
import Derived.Test.YtijnkofnpoapnaaDrawNum
import Derived.Test.YtijnkofnpoapnaaPool
namespace Go.Proofs.Ytijnkofnpoapnaa
open Go.ChangeShapes Go.WideShapes Go.ChangeAt Go.RowKit

theorem blk_grown {w w' : World} {g x : Nat} {o : Obj} (hg : w.grownBy w' (some g)) (h : w.heap[x]? = some o) (hne : x ≠ g) : w'.heap[x]? = some o :=
  (hg.block x (Array.getElem?_eq_some_iff.1 h).1 (by simpa using hne)).trans h
theorem grown_setNew' {w w' : World} {row : Option Nat} (h : w.grownBy w' row) {p : Addr} (hp : w.heap.size ≤ p.block) (v : Value) : w.grownBy (w'.setCell p v) row :=
  ⟨h.os, h.tape, h.output, by simpa [World.setCell] using h.size, fun k hk hne => (Below.heap_setCell w' p v k (by omega)).trans (h.block k hk hne)⟩
theorem cur_setNew' {w : World} {g : Nat} (h : Cur w g) {p : Addr} (hp : g < p.block) (v : Value) : Cur (w.setCell p v) g := by
  obtain ⟨A, n, c, i, x, bs, hh, hr, h1, h2, h3, h4⟩ := h
  refine ⟨A, n, c, i, x, bs, (Below.heap_setCell w p v g (by omega)).trans hh, hr.grown (grown_set w p v) (fun a e hn he => ?_), h1, h2, h3, h4⟩
  have := h4 a e hn
  injection he with he
  omega
set_option maxHeartbeats 4000000 in
theorem l32Pool_any (g : Nat) (w : World) (hc : Cur w g) :
    Calls Try.prog 69 #[.pointer (some ⟨g, 0, none⟩)] w fun e w' => ∃ a b : Int, e = .returned (.agg #[.int .i64 a, .int .i64 b]) ∧ i64 a ∧ i64 b ∧ w.grownBy w' (some g) ∧ Cur w' g := by
  have hlt := hc.lt
  go_enter Try.func69, Try.ntmps69
  go_wp2_with fail
  refine (l1Below_any g _ _ (hc.below (below_box _ _)) (by omega)).mono ?_; rintro e w1 ⟨q, rfl, hq0, hq1, -, hg1, hc1⟩
  have HR := Lib.hid (blk_grown hg1 (blk_new1 w _) (by omega))
  have z1 := hg1.size
  rw [World.size_alloc] at z1
  have G1 := (World.grownBy_alloc w _ (some g)).trans hg1
  clear hc hg1
  go_wp2_with fail
  refine (l1Below_any g _ _ hc1 (by omega)).mono ?_; rintro e w2 ⟨v, rfl, hv0, hv1, -, hg2, hc2⟩
  have HR := Lib.hid (blk_alloc (blk_grown hg2 HR.out (by omega)) (Obj.cells #[.int .i64 q, .int .i64 v] 27))
  have HX := Lib.hid (blk_new1 w2 (Obj.cells #[.int .i64 q, .int .i64 v] 27))
  have z2 := hg2.size
  have G2 := (G1.trans hg2).trans (World.grownBy_alloc w2 (Obj.cells #[.int .i64 q, .int .i64 v] 27) (some g))
  have hc2 := hc2.below (below_box w2 (Obj.cells #[.int .i64 q, .int .i64 v] 27))
  have x0 := blk_at HX.out (j := 0) rfl; have x1 := blk_at HX.out (j := 1) rfl; have xf := blk_free HX.out 1
  clear hc1 hg2 G1
  by_cases h0 : q = 0
  focus
    subst h0
    go_wp2_with fail
    refine (l1Once_any g _ _ hc2 (by omega)).mono ?_; rintro e w3 ⟨b, rfl, hg3, hc3⟩
    have z3 := hg3.size
    rw [World.size_alloc] at z3
    have HR := Lib.hid (blk_grown hg3 HR.out (by omega))
    have HX := Lib.hid (blk_grown hg3 HX.out (by omega))
    have G3 := G2.trans hg3
    have x0 := blk_at HX.out (j := 0) rfl; have x1 := blk_at HX.out (j := 1) rfl; have xf := blk_free HX.out 1
    clear hc2 G2 hg3
    cases b
  focus
    have HR := Lib.hid ((Below.heap_setCell w3 ⟨w2.heap.size, 1, none⟩ (.int .i64 0) w.heap.size (by simp; omega)).trans HR.out)
    obtain ⟨a, b, ha, hb, HX⟩ : ∃ a b, i64 a ∧ i64 b ∧ Hid ((w3.setCell ⟨w2.heap.size, 1, none⟩ (.int .i64 0)).heap[w2.heap.size]? = some (.cells #[.int .i64 a, .int .i64 b] 27 (0, 0))) := ⟨0, 0, ⟨by omega, by omega⟩, ⟨by omega, by omega⟩, heap_setCell_same w3 w2.heap.size 1 _ _ _ HX.out⟩
    have G4 := grown_setNew' G3 (p := ⟨w2.heap.size, 1, none⟩) (by simp only; omega) (.int .i64 0)
    have hc4 := cur_setNew' hc3 (p := ⟨w2.heap.size, 1, none⟩) (by simp only; omega) (.int .i64 0)
    have z4 : w2.heap.size + 1 ≤ (w3.setCell ⟨w2.heap.size, 1, none⟩ (.int .i64 0)).heap.size := by simpa [World.setCell] using z3
    go_wp2_with fail
  rotate_left
  focus
    obtain ⟨a, b, ha, hb, HX⟩ : ∃ a b, i64 a ∧ i64 b ∧ Hid (w3.heap[w2.heap.size]? = some (.cells #[.int .i64 a, .int .i64 b] 27 (0, 0))) := ⟨0, v, ⟨by omega, by omega⟩, ⟨by omega, by omega⟩, HX.out⟩
    have G4 := G3
    have hc4 := hc3
    have z4 := z3
    go_wp2_with fail
  rotate_left
  focus
    obtain ⟨a, b, ha, hb, HX⟩ : ∃ a b, i64 a ∧ i64 b ∧ Hid ((w2.alloc (Obj.cells #[.int .i64 q, .int .i64 v] 27)).heap[w2.heap.size]? = some (.cells #[.int .i64 a, .int .i64 b] 27 (0, 0))) := ⟨q, v, ⟨by omega, by omega⟩, ⟨by omega, by omega⟩, HX.out⟩
    have G4 := G2
    have hc4 := hc2
    have z4 : w2.heap.size + 1 ≤ (w2.alloc (Obj.cells #[.int .i64 q, .int .i64 v] 27)).heap.size := by simp
    have hq : (q == 0) = false := by simpa using h0
    go_wp2_with fail
  rotate_left
  all_goals (refine (l1Once_any g _ _ hc4 (by omega)).mono ?_; rintro e w5 ⟨b5, rfl, hg5, hc5⟩; have z5 := hg5.size; have HR := Lib.hid (blk_grown hg5 HR.out (by omega)); have HX := Lib.hid (blk_grown hg5 HX.out (by omega)); have G5 := G4.trans hg5; clear x0 x1 xf; cases b5)
  all_goals go_wp2_with fail
  all_goals first
    | ((with_reducible refine (l1Odd_any g _ hc5).mono ?_)
       rintro e w6 ⟨y6, rfl, hy6, hg6, hc6⟩
       have z6 := hg6.size
       have HR := Lib.hid (blk_grown hg6 HR.out (by omega))
       have HX := Lib.hid (blk_grown hg6 HX.out (by omega))
       have x0 := blk_at HX.out (j := 0) rfl; have x1 := blk_at HX.out (j := 1) rfl; have xf := blk_free HX.out 0
       have G6 := grown_setNew' (G5.trans hg6) (p := ⟨w2.heap.size, 0, none⟩) (by simp only; omega) (.int .i64 y6)
       have hc6 := cur_setNew' hc6 (p := ⟨w2.heap.size, 0, none⟩) (by simp only; omega) (.int .i64 y6)
       have HR := Lib.hid ((Below.heap_setCell w6 ⟨w2.heap.size, 0, none⟩ (.int .i64 y6) w.heap.size (by simp only; omega)).trans HR.out)
       have z7 : w2.heap.size + 1 ≤ (w6.setCell ⟨w2.heap.size, 0, none⟩ (.int .i64 y6)).heap.size := by simp [World.setCell]; omega
       obtain ⟨a, b, ha, hb, HX⟩ : ∃ a b, i64 a ∧ i64 b ∧ Hid ((w6.setCell ⟨w2.heap.size, 0, none⟩ (.int .i64 y6)).heap[w2.heap.size]? = some (.cells #[.int .i64 a, .int .i64 b] 27 (0, 0))) := ⟨y6, b, hy6, hb, heap_setCell_same w6 w2.heap.size 0 _ _ _ HX.out⟩
       have G7 := G6
       have hc7 := hc6
       go_wp2_with fail)
    | (have z7 : w2.heap.size + 1 ≤ w5.heap.size := by omega
       have G7 := G5
       have hc7 := hc5)
  all_goals
    refine (l1Once_any g _ _ hc7 (by omega)).mono ?_; rintro e w8 ⟨b8, rfl, hg8, hc8⟩
    have z8 := hg8.size
    have HR := Lib.hid (blk_grown hg8 HR.out (by omega)); have HX := Lib.hid (blk_grown hg8 HX.out (by omega)); have G8 := G7.trans hg8
    try clear x0 x1 xf
    have x0 := blk_at HX.out (j := 0) rfl; have x1 := blk_at HX.out (j := 1) rfl
    have r0 := blk_at HR.out (j := 0) rfl; have r1 := blk_at HR.out (j := 1) rfl; have rf := blk_free HR.out
    cases b8
  all_goals go_wp2_with fail
  all_goals first
    | ((with_reducible refine (l1Odd_any g _ hc8).mono ?_)
       rintro e w9 ⟨y9, rfl, hy9, hg9, hc9⟩
       have z9 := hg9.size
       have HR := Lib.hid (blk_grown hg9 HR.out (by omega))
       have HX := Lib.hid (blk_grown hg9 HX.out (by omega))
       have x0 := blk_at HX.out (j := 0) rfl; have x1 := blk_at HX.out (j := 1) rfl; have xf := blk_free HX.out 1
       have G9 := grown_setNew' (G8.trans hg9) (p := ⟨w2.heap.size, 1, none⟩) (by simp only; omega) (.int .i64 y9)
       have hc9 := cur_setNew' hc9 (p := ⟨w2.heap.size, 1, none⟩) (by simp only; omega) (.int .i64 y9)
       have HR := Lib.hid ((Below.heap_setCell w9 ⟨w2.heap.size, 1, none⟩ (.int .i64 y9) w.heap.size (by simp only; omega)).trans HR.out)
       have HX := Lib.hid (show (w9.setCell ⟨w2.heap.size, 1, none⟩ (.int .i64 y9)).heap[w2.heap.size]? = some (.cells #[.int .i64 a, .int .i64 y9] 27 (0, 0)) from heap_setCell_same w9 w2.heap.size 1 _ _ _ HX.out)
       clear r0 r1 rf
       have x0 := blk_at HX.out (j := 0) rfl; have x1 := blk_at HX.out (j := 1) rfl
       have r0 := blk_at HR.out (j := 0) rfl; have r1 := blk_at HR.out (j := 1) rfl; have rf := blk_free HR.out
       go_wp2_with fail
       refine bodyPost_ret (v := .agg #[.int .i64 a, .int .i64 y9]) (by simp [results, Try.results69, go_sem, r0, r1]) rfl ⟨a, y9, rfl, ha, hy9, ?_, ?_⟩
       · exact grown_setNew' (grown_setNew' G9 (Nat.le_refl _) _) (Nat.le_refl _) _
       · exact cur_setNew' (cur_setNew' hc9 hlt _) hlt _)
    | (refine bodyPost_ret (v := .agg #[.int .i64 a, .int .i64 b]) (by simp [results, Try.results69, go_sem, r0, r1]) rfl ⟨a, b, rfl, ha, hb, ?_, ?_⟩
       · exact grown_setNew' (grown_setNew' G8 (Nat.le_refl _) _) (Nat.le_refl _) _
       · exact cur_setNew' (cur_setNew' hc8 hlt _) hlt _)
end Go.Proofs.Ytijnkofnpoapnaa
